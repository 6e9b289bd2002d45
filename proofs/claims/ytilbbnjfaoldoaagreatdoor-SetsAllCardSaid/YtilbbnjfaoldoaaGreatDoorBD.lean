/- Memory of the propagator: blocks of cells that stay, holes, facts of the call's own. · For the rule's round with reasons: rows beside holes, the facts' cell of a propagator. · Package sets: the rule of a propagator. -/
import Derived.Test.YtilbbnjfaoldoaaGreatDoorBC
import Derived.Deep.Upon
import Derived.Deep.RegionHeld3
namespace Go.Proofs.YtilbbnjfaoldoaaGreatDoor
open Go Go.RowKit

/-- Blocks of cells stay as they are. -/
structure CK (w w' : World) : Prop where
  same : ∀ (k : Nat) (c : Array Value) (t : TypeId) (f : Nat × Nat), w.heap[k]? = some (Obj.cells c t f) → w'.heap[k]? = some (Obj.cells c t f)
  size : w.heap.size ≤ w'.heap.size
theorem CK.refl (w : World) : CK w w := ⟨fun _ _ _ _ h => h, Nat.le_refl _⟩
theorem CK.trans {a b c : World} (h : CK a b) (h' : CK b c) : CK a c := ⟨fun k x t f e => h'.same k x t f (h.same k x t f e), Nat.le_trans h.size h'.size⟩
theorem CK.below {w w' : World} (h : Below w.heap.size w w') : CK w w' := ⟨fun k _ _ _ e => (h.block k (Array.getElem?_eq_some_iff.1 e).1).trans e, h.size⟩
theorem CK.cell {w w' : World} (h : CK w w') {b o : Nat} {v : Value} (e : w.cell? ⟨b, o, none⟩ = some v) : w'.cell? ⟨b, o, none⟩ = some v := by
  unfold World.cell? at e ⊢
  cases ho : w.heap[b]? with
  | none => simp [ho] at e
  | some ob =>
    cases ob with
    | cells c t f => rw [h.same b c t f ho]; simpa [ho] using e
    | _ => simp [ho] at e
theorem Row.ck {w w' : World} {B sz : Nat} {v : Value} {n : Nat} {c : Nat → Value} (h : Row w B sz v n c) (hc : CK w w') : Row w' B sz v n c := by
  obtain ⟨hn, a, cap, hv, hc1, hm, hr⟩ := h
  refine ⟨hn, a, cap, hv, hc1, hm, fun h0 => ?_⟩
  obtain ⟨b, off, ha, hbB, hcell⟩ := hr h0
  exact ⟨b, off, ha, hbB, fun i hi => hc.cell (hcell i hi)⟩
theorem Ints.ck {w w' : World} {B : Nat} {v : Value} {xs : List Int} (h : Ints w B v xs) (hc : CK w w') : Ints w' B v xs := Row.ck h hc
theorem own_ck {w w' : World} {base : Nat} {e : TypeId} {sz : Nat} {v : Value} {n : Nat} {xs : List Value} (h : w.ownsRow base e sz v n xs) (hc : CK w w') : w'.ownsRow base e sz v n xs := by
  refine ⟨h.1, ?_⟩
  rcases h.2 with hn | ⟨g, cap, cur, rfl, hb, hgg, rest⟩
  · exact .inl hn
  · exact .inr ⟨g, cap, cur, rfl, hb, hc.same _ _ _ _ hgg, rest⟩
/-- A world whose block b holds no cells: what is said of its cells says nothing of b. -/
def hole (b : Nat) (w : World) : World := w.putObj b (.deferred none)
theorem hole_other {b k : Nat} {w : World} (h : k ≠ b) : (hole b w).heap[k]? = w.heap[k]? := World.putObj_heap_other h
theorem hole_size (b : Nat) (w : World) : (hole b w).heap.size = w.heap.size := by simp [hole]
theorem hole_cells {b k : Nat} {w : World} {c : Array Value} {t : TypeId} {f : Nat × Nat} (h : (hole b w).heap[k]? = some (.cells c t f)) : k ≠ b ∧ w.heap[k]? = some (.cells c t f) := by
  by_cases hk : k = b
  · subst hk
    by_cases hs : k < w.heap.size
    · unfold hole at h; rw [World.putObj_heap_same hs] at h; cases h
    · rw [Array.getElem?_eq_none (by rw [hole_size]; omega)] at h; cases h
  · exact ⟨hk, by rwa [hole_other hk] at h⟩
theorem CK.fill (b : Nat) (w : World) : CK (hole b w) w := ⟨fun k c t f e => (hole_cells e).2, by rw [hole_size]; exact Nat.le_refl _⟩
theorem CK.hole {b : Nat} {w w' : World} (h : CK w w') : CK (hole b w) (hole b w') := ⟨fun k c t f e => by
  obtain ⟨h1, h2⟩ := hole_cells e
  rw [hole_other h1]; exact h.same _ _ _ _ h2, by rw [hole_size, hole_size]; exact h.size⟩
/-- What turns in block b alone does not show in the world with b taken out. -/
theorem CK.hole_of {b : Nat} {w w' : World} (h : ∀ (k : Nat) (c : Array Value) (t : TypeId) (f : Nat × Nat), k ≠ b → w.heap[k]? = some (Obj.cells c t f) → w'.heap[k]? = some (Obj.cells c t f)) (hs : w.heap.size ≤ w'.heap.size) : CK (Go.Proofs.YtilbbnjfaoldoaaGreatDoor.hole b w) (Go.Proofs.YtilbbnjfaoldoaaGreatDoor.hole b w') := ⟨fun k c t f e => by
  obtain ⟨h1, h2⟩ := hole_cells e
  rw [hole_other h1]; exact h _ _ _ _ h1 h2, by rw [hole_size, hole_size]; exact hs⟩
theorem CK.touched {Bs L : Nat} {w w' : World} (h : Touched Bs L w w') : CK (Go.Proofs.YtilbbnjfaoldoaaGreatDoor.hole Bs w) (Go.Proofs.YtilbbnjfaoldoaaGreatDoor.hole Bs w') := CK.hole_of (fun k _ _ _ hk e => h.same k _ e hk (.inr rfl)) h.size
/-- A fresh block is a hole that nobody missed. -/
theorem CK.fresh {b : Nat} {w w' : World} (h : CK w w') (hb : w.heap.size ≤ b) : CK w (Go.Proofs.YtilbbnjfaoldoaaGreatDoor.hole b w') := ⟨fun k c t f e => by
  have := (Array.getElem?_eq_some_iff.1 e).1
  rw [hole_other (by omega)]; exact h.same _ _ _ _ e, by rw [hole_size]; exact h.size⟩

/-- Facts in a row of the call's own; their reasons anywhere. -/
def FOwn (w : World) (base : Nat) (v : Value) (fs : List Fact) : Prop := ∃ cs, w.ownsRow base 56 5 v fs.length cs ∧ ∀ i, i < fs.length →
  cs[i * 5]? = some (.int .i64 (fget fs i).var) ∧ cs[i * 5 + 1]? = some (.int .i64 (fget fs i).elem) ∧ cs[i * 5 + 2]? = some (.bool (fget fs i).inn) ∧ cs[i * 5 + 3]? = some (.int .i64 (fget fs i).rule) ∧
    ∃ yv, cs[i * 5 + 4]? = some yv ∧ w.ownsRow base 3 1 yv (fget fs i).why.length (intsV (fget fs i).why)
theorem FOwn.ck {w w' : World} {base : Nat} {v : Value} {fs : List Fact} (h : FOwn w base v fs) (hc : CK w w') : FOwn w' base v fs := by
  obtain ⟨cs, h1, h2⟩ := h
  refine ⟨cs, own_ck h1 hc, fun i hi => ?_⟩
  obtain ⟨e1, e2, e3, e4, yv, e5, e6⟩ := h2 i hi
  exact ⟨e1, e2, e3, e4, yv, e5, own_ck e6 hc⟩
theorem FOwn.nil (w : World) (base : Nat) : FOwn w base (.slice none 0 0) [] := ⟨[], World.ownsRow_nil _ _ _ _, fun _ hi => absurd hi (Nat.not_lt_zero _)⟩
/-- A row of the call's own is no longer than what a slice can be. -/
theorem own_max {w : World} {base : Nat} {e : TypeId} {sz : Nat} {v : Value} {n : Nat} {xs : List Value} (h : w.ownsRow base e sz v n xs) : n ≤ maxLen := by
  rcases h.2 with ⟨_, h0⟩ | ⟨g, cap, cur, _, _, _, h1, h2, _⟩
  · subst h0; exact Nat.zero_le _
  · exact Nat.le_trans h1 h2
theorem FOwn.fcts {w : World} {base : Nat} {v : Value} {fs : List Fact} (h : FOwn w base v fs) (hn : fs.length ≤ 140737488355328) (hy : ∀ i, i < fs.length → (fget fs i).why.length ≤ 140737488355328) : Fcts w w.heap.size v fs := by
  obtain ⟨cs, h1, h2⟩ := h
  refine ⟨fun i => cs[i]?.getD undef, ownsRow_row h1 hn (fun i hi => ?_), fun i hi => ?_⟩
  · have : i < cs.length := by rw [h1.1]; exact hi
    rw [List.getElem?_eq_getElem this]; rfl
  · obtain ⟨e1, e2, e3, e4, yv, e5, e6⟩ := h2 i hi
    simp only [e1, e2, e3, e4, e5, Option.getD_some]
    exact ⟨trivial, trivial, trivial, trivial, ownsRow_ints e6 (hy i hi) rfl⟩
/-- One more fact. -/
theorem FOwn.snoc {w : World} {base : Nat} {v : Value} {fs : List Fact} {cs : List Value} {f : Fact} {yv : Value} (h1 : w.ownsRow base 56 5 v (fs.length + 1) (cs ++ [.int .i64 f.var, .int .i64 f.elem, .bool f.inn, .int .i64 f.rule, yv])) (hl : cs.length = fs.length * 5)
    (h2 : ∀ i, i < fs.length → cs[i * 5]? = some (.int .i64 (fget fs i).var) ∧ cs[i * 5 + 1]? = some (.int .i64 (fget fs i).elem) ∧ cs[i * 5 + 2]? = some (.bool (fget fs i).inn) ∧ cs[i * 5 + 3]? = some (.int .i64 (fget fs i).rule) ∧ ∃ yv, cs[i * 5 + 4]? = some yv ∧ w.ownsRow base 3 1 yv (fget fs i).why.length (intsV (fget fs i).why))
    (hy : w.ownsRow base 3 1 yv f.why.length (intsV f.why)) : FOwn w base v (fs ++ [f]) := by
  refine ⟨_, by rw [List.length_append]; exact h1, fun i hi => ?_⟩
  rw [fget_snoc]
  by_cases h : i < fs.length
  · simp only [if_pos h]
    obtain ⟨e1, e2, e3, e4, yv, e5, e6⟩ := h2 i h
    rw [List.getElem?_append_left (by omega), List.getElem?_append_left (by omega), List.getElem?_append_left (by omega), List.getElem?_append_left (by omega), List.getElem?_append_left (by omega)]
    exact ⟨e1, e2, e3, e4, yv, e5, e6⟩
  · have hi2 : i = fs.length := by simp at hi; omega
    subst hi2
    simp only [Nat.lt_irrefl, if_false, if_true]
    rw [List.getElem?_append_right (by omega), List.getElem?_append_right (by omega), List.getElem?_append_right (by omega), List.getElem?_append_right (by omega), List.getElem?_append_right (by omega), hl]
    simp only [Nat.sub_self, Nat.add_sub_cancel_left]
    exact ⟨rfl, rfl, rfl, rfl, yv, rfl, hy⟩
/-- Rows of the call's own lie from base on: what turns below it does not show. -/
theorem own_low {w w' : World} {base : Nat} {e : TypeId} {sz : Nat} {v : Value} {n : Nat} {xs : List Value} (h : w.ownsRow base e sz v n xs) (hc : ∀ (k : Nat) (c : Array Value) (t : TypeId) (f : Nat × Nat), base ≤ k → w.heap[k]? = some (Obj.cells c t f) → w'.heap[k]? = some (Obj.cells c t f)) : w'.ownsRow base e sz v n xs := by
  refine ⟨h.1, ?_⟩
  rcases h.2 with hn | ⟨g, cap, cur, rfl, hb, hgg, rest⟩
  · exact .inl hn
  · exact .inr ⟨g, cap, cur, rfl, hb, hc _ _ _ _ hb hgg, rest⟩
theorem FOwn.low {w w' : World} {base : Nat} {v : Value} {fs : List Fact} (h : FOwn w base v fs) (hc : ∀ (k : Nat) (c : Array Value) (t : TypeId) (f : Nat × Nat), base ≤ k → w.heap[k]? = some (Obj.cells c t f) → w'.heap[k]? = some (Obj.cells c t f)) : FOwn w' base v fs := by
  obtain ⟨cs, h1, h2⟩ := h
  refine ⟨cs, own_low h1 hc, fun i hi => ?_⟩
  obtain ⟨e1, e2, e3, e4, yv, e5, e6⟩ := h2 i hi
  exact ⟨e1, e2, e3, e4, yv, e5, own_low e6 hc⟩
/-- Not a block of facts. -/
def notFact : Obj → Prop
  | .cells _ t _ => t ≠ 56
  | _ => True
theorem nf {c : Array Value} {t : TypeId} {f : Nat × Nat} (h : t ≠ 56) : notFact (.cells c t f) := h
/-- Only new blocks, those of E, and rows of facts from base on have turned. -/
structure Kept (E : Nat → Prop) (base : Nat) (w w' : World) : Prop where
  os : w'.os = w.os
  tape : w'.tape = w.tape
  output : w'.output = w.output
  size : w.heap.size ≤ w'.heap.size
  same : ∀ (q : Nat) (o : Obj), w.heap[q]? = some o → ¬ E q → (q < base ∨ notFact o) → w'.heap[q]? = some o
def One (x q : Nat) : Prop := q = x
def Two (x b q : Nat) : Prop := q = x ∨ q = b
theorem Kept.refl (E : Nat → Prop) (base : Nat) (w : World) : Kept E base w w := ⟨rfl, rfl, rfl, Nat.le_refl _, fun _ _ h _ _ => h⟩
theorem Kept.trans {E : Nat → Prop} {base : Nat} {a b c : World} (h : Kept E base a b) (h' : Kept E base b c) : Kept E base a c :=
  ⟨h'.os.trans h.os, h'.tape.trans h.tape, h'.output.trans h.output, Nat.le_trans h.size h'.size, fun q o e hE hn => h'.same q o (h.same q o e hE hn) hE hn⟩
theorem Kept.of_below {E : Nat → Prop} {base : Nat} {a b : World} (h : Below a.heap.size a b) : Kept E base a b :=
  ⟨h.os, h.tape, h.output, h.size, fun q _ e _ _ => (h.block q (Array.getElem?_eq_some_iff.1 e).1).trans e⟩
theorem Kept.below {E : Nat → Prop} {base : Nat} {a b c : World} (h : Kept E base a b) (hb : Below b.heap.size b c) : Kept E base a c := h.trans (Kept.of_below hb)
theorem Kept.toBelow {E : Nat → Prop} {base B : Nat} {w w' : World} (h : Kept E base w w') (hB : B ≤ base) (hw : B ≤ w.heap.size) (hE : ∀ q, q < B → ¬ E q) : Below B w w' :=
  ⟨h.os, h.tape, h.output, h.size, fun q hq => by
    have e : w.heap[q]? = some (w.heap[q]'(by omega)) := Array.getElem?_eq_getElem (by omega)
    rw [e]; exact h.same q _ e (hE q hq) (.inl (by omega))⟩
theorem Kept.through {x b base : Nat} {w w6 V : World} (h : Kept (One x) base w w6) (h' : Kept (Two x b) base w6 V) (hb : w.heap.size ≤ b) : Kept (One x) base w V :=
  ⟨h'.os.trans h.os, h'.tape.trans h.tape, h'.output.trans h.output, Nat.le_trans h.size h'.size, fun q o e hE hn => h'.same q o (h.same q o e hE hn) (fun hh => by
    rcases hh with hh | hh
    · exact hE hh
    · have := (Array.getElem?_eq_some_iff.1 e).1; omega) hn⟩
theorem Kept.setCell {E : Nat → Prop} {base : Nat} {a b : World} (h : Kept E base a b) {p : Addr} (hp : E p.block) (v : Value) : Kept E base a (b.setCell p v) :=
  ⟨h.os, h.tape, h.output, by simpa [World.setCell] using h.size, fun q o e hE hn => (Below.heap_setCell _ _ _ _ (fun hh => by subst hh; exact hE hp)).trans (h.same q o e hE hn)⟩
theorem Kept.setNew {E : Nat → Prop} {base : Nat} {a b : World} (h : Kept E base a b) {p : Addr} (hp : a.heap.size ≤ p.block) (v : Value) : Kept E base a (b.setCell p v) :=
  ⟨h.os, h.tape, h.output, by simpa [World.setCell] using h.size, fun q o e hE hn => (Below.heap_setCell _ _ _ _ (by have := (Array.getElem?_eq_some_iff.1 e).1; omega)).trans (h.same q o e hE hn)⟩
/-- Where all rows are new, all that was there stays but for the block named. -/
theorem Kept.grownBy {x base : Nat} {a b : World} (h : Kept (One x) base a b) (hb : a.heap.size ≤ base) : a.grownBy b (some x) :=
  ⟨h.os, h.tape, h.output, h.size, fun q hq hne => by
    have e : a.heap[q]? = some (a.heap[q]'hq) := Array.getElem?_eq_getElem hq
    rw [e]; exact h.same q _ e (fun hh => hne (by rw [hh])) (.inl (by omega))⟩
theorem Kept.setCells {E : Nat → Prop} {base : Nat} {a : World} {x : Nat} (hp : E x) : ∀ (vs : List Value) (o : Nat) (b : World), Kept E base a b → Kept E base a (b.setCells x o vs)
  | [], _, _, h => h
  | v :: vs, o, _, h => Kept.setCells hp vs (o + 1) _ (h.setCell (p := ⟨x, o, none⟩) hp v)
theorem Kept.touched {x Bs base : Nat} {w V V' : World} (h : Kept (Two x Bs) base w V) (ht : Touched Bs w.heap.size V V') : Kept (Two x Bs) base w V' :=
  ⟨ht.os.trans h.os, ht.tape.trans h.tape, ht.output.trans h.output, Nat.le_trans h.size ht.size, fun q o e hE hn =>
    ht.same q o (h.same q o e hE hn) (fun hh => hE (.inr hh)) (.inl (Array.getElem?_eq_some_iff.1 e).1)⟩
/-- An append to a row of facts. -/
theorem Kept.grown {E : Nat → Prop} {base : Nat} {a b c : World} {v : Value} {n : Nat} {cs : List Value} (h : Kept E base a b) (hown : b.ownsRow base 56 5 v n cs) (hg : b.grownBy c v.ownBlock) : Kept E base a c :=
  h.trans ⟨hg.os, hg.tape, hg.output, hg.size, fun q o e _ hn => by
    refine (hg.block q (Array.getElem?_eq_some_iff.1 e).1 (fun hh => ?_)).trans e
    have hq := hh.symm
    rcases hown.2 with ⟨rfl, _⟩ | ⟨g, cap, cur, rfl, hb, hgg, _⟩
    · simp [Value.ownBlock] at hq
    · simp only [Value.ownBlock, Option.some.injEq] at hq
      subst hq
      rcases hn with hn | hn
      · omega
      · rw [hgg] at e
        cases e
        exact hn rfl⟩
theorem Keep.grown {Bs L : Nat} {A B C : World} {base : Nat} {e : TypeId} {sz : Nat} {v : Value} {n : Nat} {cs : List Value} (h : Keep Bs L A B) (hown : B.ownsRow base e sz v n cs) (hg : B.grownBy C v.ownBlock) (hBs : ∀ g, v.ownBlock = some g → g ≠ Bs) : Keep Bs L A C := fun k o hk hc => by
  have h1 := h k o hk hc
  refine (hg.block k (Array.getElem?_eq_some_iff.1 h1).1 (fun hh => ?_)).trans h1
  have hq := hh.symm
  rcases hc with hc | ⟨_, hc⟩
  · exact hBs _ hq hc
  · rcases hown.2 with ⟨rfl, _⟩ | ⟨g, cap, cur, rfl, hb, hgg, _⟩
    · simp [Value.ownBlock] at hq
    · simp only [Value.ownBlock, Option.some.injEq] at hq
      subst hq
      rw [hgg] at h1
      cases h1
      simp [Obj.isCells] at hc
theorem hole_own {w : World} {base b : Nat} {e : TypeId} {size : Nat} {v : Value} {n : Nat} {xs : List Value} (h : (hole b w).ownsRow base e size v n xs) : ∀ g, v.ownBlock = some g → g ≠ b := by
  intro g hg
  rcases h.2 with ⟨rfl, _⟩ | ⟨g', cap, cur, rfl, _, hgg, _⟩
  · simp [Value.ownBlock] at hg
  · simp [Value.ownBlock] at hg
    subst hg
    exact (hole_cells hgg).1
/-- Rows of two types lie apart. -/
theorem own_own {w : World} {base base' : Nat} {e e' : TypeId} {sz sz' : Nat} {v v' : Value} {n n' : Nat} {xs xs' : List Value} (h : w.ownsRow base e sz v n xs) (h' : w.ownsRow base' e' sz' v' n' xs') (ht : e ≠ e') : v.ownBlock = none ∨ v.ownBlock ≠ v'.ownBlock := by
  rcases h.2 with ⟨rfl, _⟩ | ⟨g, cap, cur, rfl, _, hgg, _⟩
  · exact .inl rfl
  · right
    rcases h'.2 with ⟨rfl, _⟩ | ⟨g', cap', cur', rfl, _, hgg', _⟩
    · simp [Value.ownBlock]
    · simp only [Value.ownBlock, ne_eq, Option.some.injEq]
      intro hh
      subst hh
      rw [hgg] at hgg'
      cases hgg'
      exact ht rfl
/-- The bounds in a propagator. -/
theorem prop_row {w : World} {x : Nat} {t : TypeId} {bv rv fv : Value} {now : List Bnd} {rs : Bool} (h8 : now.length = 8) (h : w.heap[x]? = some (.cells (propC bv rv now fv rs).toArray t (0, 0))) : rowOf w x 2 16 = bCells now ∧ rowOk w x 2 16 = true := by
  have hl : (bCells now).length = 16 := by rw [bCells_length, h8]
  have : w.rangeAt x 2 (bCells now) := fun j v hv => by
    have hj : j < now.length * 2 := by have := (List.getElem?_eq_some_iff.1 hv).1; rwa [bCells_length] at this
    rw [(propC_cells h8 h).2.2.1 j (by omega), ← bCells_get now j hj, hv]
  have := row_of_range this
  rwa [hl] at this
theorem propC_get {bv rv fv : Value} {now : List Bnd} {rs : Bool} (h8 : now.length = 8) (i : Nat) : (propC bv rv now fv rs)[i]? = if 2 ≤ i ∧ i < 18 then (bCells now)[i - 2]? else ([bv, rv] ++ (List.replicate 16 undef ++ [fv, .bool rs]))[i]? := by
  have hl : (bCells now).length = 16 := by rw [bCells_length, h8]
  unfold propC
  by_cases h : 2 ≤ i ∧ i < 18
  · rw [if_pos h, List.getElem?_append_right (by simpa using h.1), List.getElem?_append_left (by simp; omega)]; rfl
  · rw [if_neg h]
    by_cases h2 : i < 2
    · rw [List.getElem?_append_left (by simpa using h2), List.getElem?_append_left (by simpa using h2)]
    · rw [List.getElem?_append_right (by simp; omega), List.getElem?_append_right (by simp; omega), List.getElem?_append_right (by simp; omega), List.getElem?_append_right (by simp; omega)]
      simp [hl]
/-- New bounds in a propagator. -/
theorem prop_store {w : World} {x : Nat} {t : TypeId} {bv rv fv : Value} {now now' : List Bnd} {rs : Bool} (h8 : now.length = 8) (h8' : now'.length = 8) (h : w.heap[x]? = some (.cells (propC bv rv now fv rs).toArray t (0, 0))) :
    w.there x 2 (bCells now').toArray.size ∧ (Tryz.prog.info? 85).map (·.size) = some (bCells now').toArray.size ∧ (w.setCells x 2 (bCells now')).heap[x]? = some (.cells (propC bv rv now' fv rs).toArray t (0, 0)) := by
  have hl : (bCells now').length = 16 := by rw [bCells_length, h8']
  have hi : (Tryz.prog.info? 85).map (·.size) = some (bCells now').toArray.size := by rw [List.size_toArray, hl]; kernel_rfl
  have hc := propC_cells h8 h
  refine ⟨fun j hj => ⟨?_, hc.2.2.2.2.2 _⟩, hi, ?_⟩
  · rw [hc.2.2.1 j (by rw [List.size_toArray, hl] at hj; exact hj)]; rfl
  · obtain ⟨z', e1, e2, e3⟩ := setCells_at' (bCells now') 2 w _ h (by rw [List.size_toArray, propC_length h8, hl]; omega)
    rw [e1]
    have : z' = (propC bv rv now' fv rs).toArray := by
      apply Array.ext_getElem?
      intro i
      rw [e3, hl, List.getElem?_toArray, List.getElem?_toArray, propC_get h8, propC_get h8']
      by_cases h1 : 2 ≤ i ∧ i < 18
      · rw [if_pos (by omega), if_pos h1]
      · rw [if_neg (by omega), if_neg h1, if_neg h1]
    rw [this]
theorem CK.prop {w w1 : World} {Bs x o : Nat} {vs : List Value} (hb : Below w.heap.size w w1) : CK (Go.Proofs.YtilbbnjfaoldoaaGreatDoor.hole x (Go.Proofs.YtilbbnjfaoldoaaGreatDoor.hole Bs w)) (Go.Proofs.YtilbbnjfaoldoaaGreatDoor.hole x (Go.Proofs.YtilbbnjfaoldoaaGreatDoor.hole Bs (w1.setCells x o vs))) :=
  CK.hole_of (fun k c t f hk e => by
    obtain ⟨h1, h2⟩ := hole_cells e
    have hlt := (Array.getElem?_eq_some_iff.1 h2).1
    have := hb.size
    rw [hole_other h1, World.heap_setCells_other _ _ _ _ (by omega) hk]
    exact (hb.block k hlt).trans h2) (by
    rw [hole_size, hole_size]
    exact Nat.le_trans hb.size (below_setCells (B := x) (Nat.le_refl _) vs o w1 (Below.refl _ _)).size)
end Go.Proofs.YtilbbnjfaoldoaaGreatDoor

namespace Go.Proofs.YtilbbnjfaoldoaaGreatDoor
open Go Go.RowKit

theorem Tryz.info56 : (Tryz.prog.info? 56).map (fun i => (i.zero, i.size, i.bytes)) = some (some (.agg #[.int .i64 0, .int .i64 0, .bool false, .int .i64 0, .slice none 0 0]), 5, 56) := by kernel_rfl
theorem own_hole {w : World} {base b : Nat} {e : TypeId} {size : Nat} {v : Value} {n : Nat} {xs : List Value} (h : w.ownsRow base e size v n xs) (hb : ∀ g, v.ownBlock = some g → g ≠ b) : (hole b w).ownsRow base e size v n xs := by
  refine ⟨h.1, ?_⟩
  rcases h.2 with hn | ⟨g, cap, cur, rfl, hg, hgg, rest⟩
  · exact .inl hn
  · exact .inr ⟨g, cap, cur, rfl, hg, by rw [hole_other (hb g rfl)]; exact hgg, rest⟩
/-- A row's own block is no block of another type. -/
theorem own_apart {w : World} {base b : Nat} {e t : TypeId} {size : Nat} {v : Value} {n : Nat} {xs : List Value} {c : Array Value} (h : w.ownsRow base e size v n xs) (hb : w.heap[b]? = some (.cells c t (0, 0))) (ht : t ≠ e) : ∀ g, v.ownBlock = some g → g ≠ b := by
  intro g hg hgb
  subst hgb
  rcases h.2 with ⟨rfl, _⟩ | ⟨g', cap, cur, rfl, _, hgg, _⟩
  · simp [Value.ownBlock] at hg
  · simp [Value.ownBlock] at hg
    subst hg
    rw [hgg] at hb
    simp only [Option.some.injEq, Obj.cells.injEq] at hb
    exact ht hb.2.1.symm
/-- New facts in a propagator. -/
theorem prop_facts {w : World} {x : Nat} {t : TypeId} {bv rv fv fv' : Value} {now : List Bnd} {rs : Bool} (h8 : now.length = 8) (h : w.heap[x]? = some (.cells (propC bv rv now fv rs).toArray t (0, 0))) :
    (w.setCell ⟨x, 18, none⟩ fv').heap[x]? = some (.cells (propC bv rv now fv' rs).toArray t (0, 0)) := by
  have hl : (bCells now).length = 16 := by rw [bCells_length, h8]
  simp only [World.setCell, Array.getElem?_modify, if_true, h, Option.map_some]
  have : (propC bv rv now fv rs).set 18 fv' = propC bv rv now fv' rs := by
    unfold propC
    rw [List.set_append_right _ _ (by simp), List.set_append_right _ _ (by simp; omega)]
    simp [hl]
  simp [this]
theorem abs_anyH {P : Program} {md : Region.Mode} {ops : Array Oper} {Q : Exit → Act → World → Prop} {S : World → Prop} {n : Nat} {l : Array Bool} {a : Act} {W : World} (R : World → Prop) (hR : R W) (h : ∀ W', R W' → wpAnyH P md ops Q S n l a W') : wpAnyH P md ops Q S n l a W := h W hR
theorem hole_block {b k : Nat} {w : World} {o : Obj} (h : k ≠ b) (e : w.heap[k]? = some o) : (hole b w).heap[k]? = some o := (hole_other h).trans e
theorem FOwn.hole {w : World} {base b : Nat} {v : Value} {fs : List Fact} {t : TypeId} {c : Array Value} (h : FOwn w base v fs) (hb : w.heap[b]? = some (.cells c t (0, 0))) (h1 : t ≠ 56) (h2 : t ≠ 3) : FOwn (Go.Proofs.YtilbbnjfaoldoaaGreatDoor.hole b w) base v fs := by
  obtain ⟨cs, hc, hr⟩ := h
  refine ⟨cs, own_hole hc (own_apart hc hb h1), fun i hi => ?_⟩
  obtain ⟨e1, e2, e3, e4, yv, e5, e6⟩ := hr i hi
  exact ⟨e1, e2, e3, e4, yv, e5, own_hole e6 (own_apart e6 hb h2)⟩
/-- The facts' row behind an append. -/
theorem FOwn.appended {w1 w2 : World} {base : Nat} {v v' : Value} {fs : List Fact} {f : Fact} {cs : List Value} {yv : Value} (hc : w1.ownsRow base 56 5 v fs.length cs) (hg : w1.grownBy w2 v.ownBlock)
    (hr : ∀ i, i < fs.length → cs[i * 5]? = some (.int .i64 (fget fs i).var) ∧ cs[i * 5 + 1]? = some (.int .i64 (fget fs i).elem) ∧ cs[i * 5 + 2]? = some (.bool (fget fs i).inn) ∧ cs[i * 5 + 3]? = some (.int .i64 (fget fs i).rule) ∧ ∃ yv, cs[i * 5 + 4]? = some yv ∧ w1.ownsRow base 3 1 yv (fget fs i).why.length (intsV (fget fs i).why))
    (hy : w1.ownsRow base 3 1 yv f.why.length (intsV f.why)) (h2 : w2.ownsRow base 56 5 v' (fs.length + 1) (cs ++ [.int .i64 f.var, .int .i64 f.elem, .bool f.inn, .int .i64 f.rule, yv])) : FOwn w2 base v' (fs ++ [f]) :=
  FOwn.snoc h2 hc.1 (fun i hi => by
    obtain ⟨e1, e2, e3, e4, yv, e5, e6⟩ := hr i hi
    exact ⟨e1, e2, e3, e4, yv, e5, e6.kept hg (own_own e6 hc (by decide))⟩) (hy.kept hg (own_own hy hc (by decide)))
end Go.Proofs.YtilbbnjfaoldoaaGreatDoor

namespace Go.Proofs.YtilbbnjfaoldoaaGreatDoor
open Go Go.RowKit
attribute [local go_sem] cell_grow u64_sAnd u64_sOr u64_sDiff sDiff_all zeqI zneI sAnd_bit_zero sAnd_bit_zeroN sAnd_bit_nonzero Oper.semAt_some wide_fn wide_depth rowOf_grow rowOk_grow rowOf_alloc rowOk_alloc

theorem abs_post {Q : Exit → Act → World → Prop} {e : Exit} {a : Act} {W : World} (R : World → Prop) (hR : R W) (h : ∀ W', R W' → Q e a W') : Q e a W := h W hR
theorem Below.drewn {B : Nat} {a w : World} (h : Below B a w) : Below B a w.drew := h.trans ⟨rfl, rfl, rfl, Nat.le_refl _, fun _ _ => rfl⟩
theorem two_no {x b q : Nat} (h1 : q ≠ x) (h2 : q ≠ b) : ¬ Two x b q := fun h => h.elim h1 h2
/-- The mark that a range over a function leaves. -/
def mark (D : Nat) : Deferred := { target := .collected D, args := #[] }
section
variable {F : Fence} {n : Nat} {P : Program} {fn : Func} {R : Ending → World → Prop}
theorem leaves_marks {v : Value} {L : Nat} {tmps : Array Value} : ∀ (Ds : List Nat) (w : World), Ds.Nodup → (∀ D ∈ Ds, L ≤ D ∧ w.heap[D]? = some (.deferred (some []))) →
    (∀ w', Below L w w' → CK w w' → (results fn tmps).run P w' = .ok v w' ∧ R (.returned v) w') → LeavesInM F n P fn tmps R (Ds.map mark) .returning w
  | [], w, _, _, h => ⟨v, (h w (Below.refl _ _) (CK.refl _)).1, (h w (Below.refl _ _) (CK.refl _)).2⟩
  | D :: Ds, w, hn, hD, h => by
    have hd := hD D (by simp)
    have hnd := List.nodup_cons.1 hn
    have hck : CK w (w.putObj D (.deferred none)) := ⟨fun k c t f e => (World.putObj_heap_other (fun hk => by subst hk; rw [hd.2] at e; cases e)).trans e, by simp⟩
    have hb : Below L w (w.putObj D (.deferred none)) := below_putObj (Below.refl _ _) hd.1 _
    refine ⟨by simp, .inl ⟨D, _, rfl, run_takeDeferred hd.2, leaves_marks (v := v) (L := L) Ds _ hnd.2 (fun D' h' => ⟨(hD D' (by simp [h'])).1, (World.putObj_heap_other (by intro hh; subst hh; exact hnd.1 h')).trans (hD D' (by simp [h'])).2⟩) ?_⟩⟩
    intro w' hb' hck'
    exact h w' (hb.trans hb') (hck.trans hck')
end
theorem Tab.block {w W : World} (h : Tab w) (hb : W.heap[0]? = w.heap[0]?) : Tab W := fun j hj => (World.cell?_of_block (a := ⟨0, j, none⟩) hb).trans (h j hj)
theorem abs_in {F : Fence} {n : Nat} {P : Program} {c : Code} {Q : Exit → Act → World → Prop} {a : Act} {W : World} (R : World → Prop) (hR : R W) (h : ∀ W', R W' → Code.wpIn F n P c Q a W') : Code.wpIn F n P c Q a W := h W hR
theorem abs_any {P : Program} {md : Region.Mode} {ops : Array Oper} {Q : Exit → Act → World → Prop} {n : Nat} {l : Array Bool} {a : Act} {W : World} (R : World → Prop) (hR : R W) (h : ∀ W', R W' → wpAny P md ops Q n l a W') : wpAny P md ops Q n l a W := h W hR
theorem stE_snoc (p : Prob) (rs : Bool) (j v : Nat) (st : St) (es : List Nat) (e : Nat) : stE p rs j v st (es ++ [e]) = stepE p rs j v (stE p rs j v st es) e := by unfold stE; rw [List.foldl_append]; rfl
theorem Good.bit {p : Prob} {rs : Bool} {j v : Nat} (hv : v < 8) : ∀ (es : List Nat) {st : St}, Good p st → es.Nodup → (∀ e ∈ es, e < 12 ∧ (openE (bget st.1 v)).testBit e = true) → ∀ i, i ∉ es → (openE (bget (stE p rs j v st es).1 v)).testBit i = (openE (bget st.1 v)).testBit i
  | [], st, _, _, _, i, _ => rfl
  | e :: es, st, h, hnd, ho, i, hi => by
    have h1 := h.step (rs := rs) (j := j) hv (ho e (by simp)).1 (ho e (by simp)).2
    have hne := List.nodup_cons.1 hnd
    have h2 := Good.bit (rs := rs) (j := j) hv es h1.1 hne.2 (fun e' he' => ⟨(ho e' (by simp [he'])).1, by
      rw [h1.2.2.2 e' (fun hh => hne.1 (hh ▸ he'))]; exact (ho e' (by simp [he'])).2⟩) i (fun hh => hi (by simp [hh]))
    exact h2.trans (h1.2.2.2 i (fun hh => hi (by simp [hh])))
/-- At an element of the loop. -/
theorem Good.at {p : Prob} {rs : Bool} {j v : Nat} (hv : v < 8) {st : St} (h : Good p st) {pre rest : List Nat} {e : Nat} (hel : elems (openE (bget st.1 v)) = pre ++ e :: rest) :
    Good p (stE p rs j v st pre) ∧ e < 12 ∧ (openE (bget (stE p rs j v st pre).1 v)).testBit e = true := by
  have hnd := elems_nodup (openE (bget st.1 v))
  rw [hel] at hnd
  have ho : ∀ e' ∈ pre ++ e :: rest, e' < 12 ∧ (openE (bget st.1 v)).testBit e' = true := fun e' h' => open_elems (h.s12.get v).2 (by rw [hel]; exact h')
  have hnp := (List.nodup_append.1 hnd)
  have hp : ∀ e' ∈ pre, e' < 12 ∧ (openE (bget st.1 v)).testBit e' = true := fun e' h' => ho e' (by simp [h'])
  refine ⟨(h.steps hv pre hnp.1 hp).1, (ho e (by simp)).1, ?_⟩
  rw [Good.bit hv pre h hnp.1 hp e (fun hh => hnp.2.2 e hh e (by simp) rfl)]
  exact (ho e (by simp)).2
theorem stV_take_succ (p : Prob) (rs : Bool) (j : Nat) (st : St) (vs : List Int) (k : Nat) (h : k < vs.length) : stV p rs j st (vs.take (k + 1)) = stepV p rs j (stV p rs j st (vs.take k)) (iget vs k) := by
  unfold stV
  rw [List.take_succ_eq_append_getElem h, List.foldl_append]
  simp [iget, h]
theorem eq_range (t : Array Value) (n : Nat) (h : t.size = n) : t = ((List.range n).map fun i => t.getD i undef).toArray := by
  subst h
  apply Array.ext_getElem?
  intro i
  by_cases hi : i < t.size
  · simp [hi]
  · simp [hi]
set_option maxRecDepth 100000 in
theorem frame103 (t : Array Value) (h : t.size = 103) : t = #[t.getD 0 undef, t.getD 1 undef, t.getD 2 undef, t.getD 3 undef, t.getD 4 undef, t.getD 5 undef, t.getD 6 undef, t.getD 7 undef, t.getD 8 undef, t.getD 9 undef, t.getD 10 undef, t.getD 11 undef, t.getD 12 undef, t.getD 13 undef, t.getD 14 undef, t.getD 15 undef, t.getD 16 undef, t.getD 17 undef, t.getD 18 undef, t.getD 19 undef, t.getD 20 undef, t.getD 21 undef, t.getD 22 undef, t.getD 23 undef, t.getD 24 undef, t.getD 25 undef, t.getD 26 undef, t.getD 27 undef, t.getD 28 undef, t.getD 29 undef, t.getD 30 undef, t.getD 31 undef, t.getD 32 undef, t.getD 33 undef, t.getD 34 undef, t.getD 35 undef, t.getD 36 undef, t.getD 37 undef, t.getD 38 undef, t.getD 39 undef, t.getD 40 undef, t.getD 41 undef, t.getD 42 undef, t.getD 43 undef, t.getD 44 undef, t.getD 45 undef, t.getD 46 undef, t.getD 47 undef, t.getD 48 undef, t.getD 49 undef, t.getD 50 undef, t.getD 51 undef, t.getD 52 undef, t.getD 53 undef, t.getD 54 undef, t.getD 55 undef, t.getD 56 undef, t.getD 57 undef, t.getD 58 undef, t.getD 59 undef, t.getD 60 undef, t.getD 61 undef, t.getD 62 undef, t.getD 63 undef, t.getD 64 undef, t.getD 65 undef, t.getD 66 undef, t.getD 67 undef, t.getD 68 undef, t.getD 69 undef, t.getD 70 undef, t.getD 71 undef, t.getD 72 undef, t.getD 73 undef, t.getD 74 undef, t.getD 75 undef, t.getD 76 undef, t.getD 77 undef, t.getD 78 undef, t.getD 79 undef, t.getD 80 undef, t.getD 81 undef, t.getD 82 undef, t.getD 83 undef, t.getD 84 undef, t.getD 85 undef, t.getD 86 undef, t.getD 87 undef, t.getD 88 undef, t.getD 89 undef, t.getD 90 undef, t.getD 91 undef, t.getD 92 undef, t.getD 93 undef, t.getD 94 undef, t.getD 95 undef, t.getD 96 undef, t.getD 97 undef, t.getD 98 undef, t.getD 99 undef, t.getD 100 undef, t.getD 101 undef, t.getD 102 undef] := (eq_range t 103 h).trans rfl
theorem rule_frame (t : Array Value) (h : t.size = 103) {v0 v1 v2 v3 v4 v28 v29 v30 : Value} (h0 : t.getD 0 undef = v0) (h1 : t.getD 1 undef = v1) (h2 : t.getD 2 undef = v2) (h3 : t.getD 3 undef = v3) (h4 : t.getD 4 undef = v4) (h28 : t.getD 28 undef = v28) (h29 : t.getD 29 undef = v29) (h30 : t.getD 30 undef = v30) : ∃ f : Nat → Value, t = #[v0, v1, v2, v3, v4, f 5, f 6, f 7, f 8, f 9, f 10, f 11, f 12, f 13, f 14, f 15, f 16, f 17, f 18, f 19, f 20, f 21, f 22, f 23, f 24, f 25, f 26, f 27, v28, v29, v30, f 31, f 32, f 33, f 34, f 35, f 36, f 37, f 38, f 39, f 40, f 41, f 42, f 43, f 44, f 45, f 46, f 47, f 48, f 49, f 50, f 51, f 52, f 53, f 54, f 55, f 56, f 57, f 58, f 59, f 60, f 61, f 62, f 63, f 64, f 65, f 66, f 67, f 68, f 69, f 70, f 71, f 72, f 73, f 74, f 75, f 76, f 77, f 78, f 79, f 80, f 81, f 82, f 83, f 84, f 85, f 86, f 87, f 88, f 89, f 90, f 91, f 92, f 93, f 94, f 95, f 96, f 97, f 98, f 99, f 100, f 101, f 102] := by
  refine ⟨fun i => t.getD i undef, ?_⟩
  have := frame103 t h
  rw [h0, h1, h2, h3, h4, h28, h29, h30] at this
  exact this
set_option maxRecDepth 100000 in
set_option maxHeartbeats 2000000 in
theorem rule_step (p : Prob) (rs : Bool) (j : Nat) (st : St) (bv rv lv : Value) (x : Nat) (w : World) {B base : Nat} (hbv : Bnds w B bv p.bounds) (hrv : Rls w B rv p.rules) (hB0 : 0 < B) (hB : B ≤ x) (hBb : B ≤ base) (hx : w.heap[x]? = some (.cells (propC bv rv st.1 lv rs).toArray 91 (0, 0)))
    (hf : FOwn (hole x w) base lv st.2) (hbase : base ≤ w.heap.size) (hg : Good p st) (hpo : probOk p = true) (hjl : j < p.rules.length) (hT : Tab w) :
    Calls Tryz.prog 82 #[.pointer (some ⟨x, 0, none⟩), .int .i64 j] w fun e w' =>
      (possB st.1 (rget p.rules j) = true ∧ (∃ v, e = .returned v) ∧ ∃ lv', w'.heap[x]? = some (.cells (propC bv rv (ruleSt p rs j st).1 lv' rs).toArray 91 (0, 0)) ∧ FOwn (hole x w') base lv' (ruleSt p rs j st).2 ∧ Kept (One x) base w w') ∨
      (possB st.1 (rget p.rules j) = false ∧ e = .panicked [{ v := .iface 124 (.agg #[.int .i64 j]), recovered := false }] ∧ Below w.heap.size w w') := by
  have HBV := Lib.hid hbv; have HRV := Lib.hid hrv; have HT := Lib.hid hT; have HX := Lib.hid hx; have HF := Lib.hid hf; have HG := Lib.hid hg; have HPO := Lib.hid hpo
  obtain ⟨ba, bc, rfl⟩ := hbv.slice
  obtain ⟨rb, ro, vv, hrve, hrb, hvv, q0, q1, q2, q3⟩ : ∃ b off vv, (∃ n c, rv = .slice (some ⟨b, off, none⟩) n c ∧ n = p.rules.length) ∧ b < B ∧ Ints w B vv (rget p.rules j).vars ∧ w.cell? ⟨b, off + j * 4, none⟩ = some (.int .i64 (rget p.rules j).kind) ∧ w.cell? ⟨b, off + j * 4 + 1, none⟩ = some vv ∧
      w.cell? ⟨b, off + j * 4 + 2, none⟩ = some (.int .i64 (rget p.rules j).low) ∧ w.cell? ⟨b, off + j * 4 + 3, none⟩ = some (.int .i64 (rget p.rules j).high) := by
    obtain ⟨ra, rc, rfl⟩ := hrv.slice
    obtain ⟨b, off, vv, rfl, h⟩ := hrv.cells hjl
    exact ⟨b, off, vv, ⟨_, _, rfl, rfl⟩, h⟩
  obtain ⟨rn, rc, rfl, rfl⟩ := hrve
  obtain ⟨va, vc, rfl⟩ := hvv.slice
  have hxl : x < w.heap.size := (Array.getElem?_eq_some_iff.1 hx).1
  have x1 := (propC_cells hg.len hx).2.1
  have HVV := Lib.hid hvv
  have hfit := (probOk_fit hpo).2.2.2.1 j hjl
  have HFIT := Lib.hid hfit
  have hr3 : (rget p.rules j).vars.length ≤ 3 := by rcases hfit.1 with h | h | h <;> omega
  clear hbv hrv hT hx hf hg hpo hvv hfit
  refine callsIn_wide.1 (callsIn_of_wp_marks (n := 0) Tryz.func82 rfl trivial (wpIn_wide.2 ?_) rfl)
  simp only [Tryz.ntmps82, List.size_toArray, List.length_cons, List.length_nil, Nat.reduceAdd, Nat.reduceSub, Array.replicate_succ, Array.replicate_zero, List.push_toArray, List.append_toArray, List.nil_append, List.cons_append]
  go_wp2_with fail
  refine abs_wp (fun W => W.heap[w.heap.size]? = some (.cells #[.pointer (some ⟨x, 0, none⟩)] 88 (0, 0)) ∧ W.heap[w.heap.size + 1]? = some (.cells #[.int .i64 j] 3 (0, 0)) ∧ Below w.heap.size w W ∧ w.heap.size + 2 = W.heap.size) ⟨(heap_new2 _ _ _).1, (heap_new2 _ _ _).2, Below.new2 _ _ _, by simp⟩ ?_
  rintro W ⟨k0, k1, hb, hs⟩
  have c0 : W.cell? ⟨w.heap.size, 0, none⟩ = some (.pointer (some ⟨x, 0, none⟩)) := by rw [cell_of_row _ _ _ _ _ _ k0]; rfl
  have c1 : W.cell? ⟨w.heap.size + 1, 0, none⟩ = some (.int .i64 j) := by rw [cell_of_row _ _ _ _ _ _ k1]; rfl
  rw [← (bcell hb).1 _ _ (by omega)] at x1 q0 q1 q2 q3
  have z0 : w.heap.size < W.heap.size := by omega
  have z1 : w.heap.size + 1 < W.heap.size := by omega
  have z2 : x < W.heap.size := by omega
  have z3 : rb < W.heap.size := by omega
  have HK0 := Lib.hid k0; have HK1 := Lib.hid k1; have HB := Lib.hid hb; have HS := Lib.hid hs
  clear k0 k1 hb hs
  go_region_held3 (fun w' => w'.cell? ⟨w.heap.size, 0, none⟩ = some (.pointer (some ⟨x, 0, none⟩)) ∧ w'.cell? ⟨w.heap.size + 1, 0, none⟩ = some (.int .i64 j) ∧ w'.cell? ⟨x, 1, none⟩ = some (.slice (some ⟨rb, ro, none⟩) p.rules.length rc) ∧ w'.cell? ⟨rb, ro + j * 4, none⟩ = some (.int .i64 (rget p.rules j).kind) ∧ w'.cell? ⟨rb, ro + j * 4 + 1, none⟩ = some (.slice va (rget p.rules j).vars.length vc) ∧
      w'.cell? ⟨rb, ro + j * 4 + 2, none⟩ = some (.int .i64 (rget p.rules j).low) ∧ w'.cell? ⟨rb, ro + j * 4 + 3, none⟩ = some (.int .i64 (rget p.rules j).high)) (go_keep) (fail)
  refine abs_post (fun V => V.heap[w.heap.size]? = some (.cells #[.pointer (some ⟨x, 0, none⟩)] 88 (0, 0)) ∧ V.heap[w.heap.size + 1]? = some (.cells #[.int .i64 j] 3 (0, 0)) ∧ V.heap[W.heap.size]? = some (.cells #[.int .i64 (rget p.rules j).kind, .slice va (rget p.rules j).vars.length vc, .int .i64 (rget p.rules j).low, .int .i64 (rget p.rules j).high] 62 (0, 0)) ∧
    Below W.heap.size W V ∧ W.heap.size + 1 = V.heap.size) ⟨(heap_old HK0.out), (heap_old HK1.out), (heap_new0 _ _), Below.drewn (Below.new1 _ _), by simp⟩ ?_
  rintro V ⟨k0, k1, k2, hb, hs⟩
  have hbV := HB.out.trans (hb.mono HB.out.size)
  rw [← HS.out] at k2
  have hsV : w.heap.size + 3 = V.heap.size := by have := HS.out; omega
  have HK0 := Lib.hid k0; have HK1 := Lib.hid k1; have HK2 := Lib.hid k2; have HBV2 := Lib.hid hbV; have HSV := Lib.hid hsV
  have c0 : V.cell? ⟨w.heap.size, 0, none⟩ = some (.pointer (some ⟨x, 0, none⟩)) := by rw [cell_of_row _ _ _ _ _ _ k0]; rfl
  have c1 : V.cell? ⟨w.heap.size + 1, 0, none⟩ = some (.int .i64 j) := by rw [cell_of_row _ _ _ _ _ _ k1]; rfl
  have d0 : V.cell? ⟨w.heap.size + 2, 0, none⟩ = some (.int .i64 (rget p.rules j).kind) := by rw [cell_of_row _ _ _ _ _ _ k2]; rfl
  have d1 : V.cell? ⟨w.heap.size + 2, 1, none⟩ = some (.slice va (rget p.rules j).vars.length vc) := by rw [cell_of_row _ _ _ _ _ _ k2]; rfl
  have d2 : V.cell? ⟨w.heap.size + 2, 2, none⟩ = some (.int .i64 (rget p.rules j).low) := by rw [cell_of_row _ _ _ _ _ _ k2]; rfl
  have d3 : V.cell? ⟨w.heap.size + 2, 3, none⟩ = some (.int .i64 (rget p.rules j).high) := by rw [cell_of_row _ _ _ _ _ _ k2]; rfl
  have hpr := prop_row HG.out.len (heap_later HX.out hbV hxl)
  have HPR := Lib.hid hpr
  have y0 : w.heap.size < V.heap.size := by omega
  have y1 : w.heap.size + 1 < V.heap.size := by omega
  have y2 : w.heap.size + 2 < V.heap.size := by omega
  have y3 : x < V.heap.size := by omega
  have hp : ∀ d os, Gives Tryz.prog 48 #[.agg (bCells st.1).toArray, .agg #[.int .i64 (rget p.rules j).kind, .slice va (rget p.rules j).vars.length vc, .int .i64 (rget p.rules j).low, .int .i64 (rget p.rules j).high]] (Go.Sort.grow (redrawn V d) os) (.bool (possB st.1 (rget p.rules j))) := fun d os =>
    possible_any _ HG.out.len HG.out.s12 _ HFIT.out _ _ (HVV.out.below (below_grow HBV2.out d os) (by omega)) (Nat.le_trans (by omega) (below_grow HBV2.out d os).size) (HT.out.below (below_grow HBV2.out d os) (by omega)) (by have := (below_grow HBV2.out d os).size; omega)
  have HP := Lib.hid hp
  clear k0 k1 k2 hb hs hbV hsV hpr hp q0 q1 q2 q3 x1 z0 z1 z2 z3
  have e2 : W.heap.size = w.heap.size + 2 := HS.out.symm
  rw [e2]
  clear e2
  cases hpo : possB st.1 (rget p.rules j) <;> rw [hpo] at HP
  case false =>
    go_wp2
    refine wp_region_qb (by kernel_rfl) (by kernel_rfl) ?_
    repeat (first | (go_big_quiet_want; refine quiet_loadB _ rfl rfl (rowQ HPR.out y3) ?_; simp only [Act.put, List.setIfInBounds_toArray, List.set_cons_zero, List.set_cons_succ]; go_big_quiet_on) | go_big_quiet_step ((with_reducible exact Gives.quiet (HP.out _ _))))
    refine wpQuiet_nil ?_
    intro w3 hb3
    have k1 := heap_later HK1.out hb3 y1
    have c1 : w3.cell? ⟨w.heap.size + 1, 0, none⟩ = some (.int .i64 j) := by rw [cell_of_row _ _ _ _ _ _ k1]; rfl
    have hfin := HBV2.out.trans (hb3.mono HBV2.out.size)
    go_wp2
    exact .inr ⟨hpo, rfl, hfin⟩
  case true =>
    go_wp2
    refine wp_region_qb (by kernel_rfl) (by kernel_rfl) ?_
    repeat (first | (go_big_quiet_want; refine quiet_loadB _ rfl rfl (rowQ HPR.out y3) ?_; simp only [Act.put, List.setIfInBounds_toArray, List.set_cons_zero, List.set_cons_succ]; go_big_quiet_on) | go_big_quiet_step ((with_reducible exact Gives.quiet (HP.out _ _))))
    refine wpQuiet_nil ?_
    intro w3 hb3
    have hb := HBV2.out.trans (hb3.mono HBV2.out.size)
    have k0 := heap_later HK0.out hb3 y0
    have k1 := heap_later HK1.out hb3 y1
    have k2 := heap_later HK2.out hb3 y2
    have hs3 : w.heap.size + 3 ≤ w3.heap.size := by have := hb3.size; have := HSV.out; omega
    have hx3 := heap_later HX.out hb hxl
    have hf3 : FOwn (hole x w3) base lv st.2 := HF.out.ck (CK.below (hb.mono (Nat.le_refl _))).hole
    have d1 : w3.cell? ⟨w.heap.size + 2, 1, none⟩ = some (.slice va (rget p.rules j).vars.length vc) := by rw [cell_of_row _ _ _ _ _ _ k2]; rfl
    have HK0 := Lib.hid k0; have HK1 := Lib.hid k1; have HK2 := Lib.hid k2; have HB3 := Lib.hid hb; have HS3 := Lib.hid hs3; have HX3 := Lib.hid hx3; have HF3 := Lib.hid hf3
    clear hb k0 k1 k2 hs3 hx3 hf3 hb3 HP HPR HX HF HSV
    go_wp2
    refine wp_loop (fun a W => a.tmps.size = 103 ∧ ∃ (k : Nat) (Ds : List Nat) (lv : Value), (a.tmps.getD 0 undef = .pointer (some ⟨x, 0, none⟩) ∧ a.tmps.getD 1 undef = .int .i64 j ∧ a.tmps.getD 2 undef = .pointer (some ⟨w.heap.size, 0, none⟩) ∧ a.tmps.getD 3 undef = .pointer (some ⟨w.heap.size + 1, 0, none⟩) ∧ a.tmps.getD 4 undef = .pointer (some ⟨w.heap.size + 2, 0, none⟩) ∧ a.tmps.getD 28 undef = .slice va (rget p.rules j).vars.length vc ∧ a.tmps.getD 29 undef = .int .i64 (rget p.rules j).vars.length ∧ a.tmps.getD 30 undef = .int .i64 k) ∧ a.defers = Ds.map mark ∧ k ≤ (rget p.rules j).vars.length ∧
        W.heap[x]? = some (.cells (propC (.slice ba p.bounds.length bc) (.slice (some ⟨rb, ro, none⟩) p.rules.length rc) (stV p rs j st ((rget p.rules j).vars.take k)).1 lv rs).toArray 91 (0, 0)) ∧
        FOwn (hole x W) base lv (stV p rs j st ((rget p.rules j).vars.take k)).2 ∧ Kept (One x) base w W ∧
        W.heap[w.heap.size]? = some (.cells #[.pointer (some ⟨x, 0, none⟩)] 88 (0, 0)) ∧ W.heap[w.heap.size + 1]? = some (.cells #[.int .i64 j] 3 (0, 0)) ∧
        W.heap[w.heap.size + 2]? = some (.cells #[.int .i64 (rget p.rules j).kind, .slice va (rget p.rules j).vars.length vc, .int .i64 (rget p.rules j).low, .int .i64 (rget p.rules j).high] 62 (0, 0)) ∧
        w.heap.size + 3 ≤ W.heap.size ∧ Ds.Nodup ∧ ∀ D ∈ Ds, w.heap.size + 3 ≤ D ∧ W.heap[D]? = some (.deferred (some []))) (fun a _ => (rget p.rules j).vars.length - (intOf (a.tmps.getD 30 undef)).toNat) ?h0 ?round
    case h0 =>
      exact ⟨rfl, 0, [], lv, ⟨rfl, rfl, rfl, rfl, rfl, rfl, rfl, rfl⟩, rfl, Nat.zero_le _, HX3.out, HF3.out, Kept.of_below HB3.out, HK0.out, HK1.out, HK2.out, HS3.out, List.nodup_nil, fun D hD => by cases hD⟩
    case round =>
      rintro ⟨t, ds⟩ W ⟨hsz, k, Ds, lv', ⟨h0, h1, h2, h3, h4, h28, h29, h30⟩, hds, hk, hx, hf, hgr, k0, k1, k2, hs, hnd, hD⟩
      obtain ⟨f, rfl⟩ := rule_frame t hsz h0 h1 h2 h3 h4 h28 h29 h30
      simp only at hds
      subst hds
      clear hsz h0 h1 h2 h3 h4 h28 h29 h30
      by_cases hlt : k < (rget p.rules j).vars.length
      · have hvs := (HFIT.out).2 k hlt
        obtain ⟨v, hv⟩ : ∃ v : Nat, iget (rget p.rules j).vars k = v := ⟨(iget (rget p.rules j).vars k).toNat, by omega⟩
        have hv8 : v < 8 := by omega
        obtain ⟨st', hst⟩ : ∃ st', st' = stV p rs j st ((rget p.rules j).vars.take k) := ⟨_, rfl⟩
        have hg' : Good p st' := by rw [hst]; exact (HG.out.vars _ (fun v hv => HFIT.out.mem v (List.mem_of_mem_take hv))).1
        have hnext : stV p rs j st ((rget p.rules j).vars.take (k + 1)) = stE p rs j v st' (elems (openE (bget st'.1 v))) := by
          rw [stV_take_succ _ _ _ _ _ _ hlt, ← hst, hv]; rfl
        rw [← hst] at hx hf
        obtain ⟨_, a', c', hae, _, _, hrow⟩ := HVV.out
        cases hae
        obtain ⟨vb, vo, rfl, hvb, hvcell⟩ := hrow (by omega)
        have hgc : ∀ b o, b < B → W.cell? ⟨b, o, none⟩ = w.cell? ⟨b, o, none⟩ := fun b o hb => World.cell?_of_block ((hgr.toBelow hBb (by omega) (fun q hq h => by unfold One at h; omega)).block b hb)
        have e0 : W.cell? ⟨vb, vo + k, none⟩ = some (.int .i64 v) := by rw [hgc _ _ hvb, hvcell k (by omega)]; show some (Value.int .i64 (iget (rget p.rules j).vars k)) = _; rw [hv]
        have HX := Lib.hid hx; have HF := Lib.hid hf; have HGR := Lib.hid hgr; have HK0 := Lib.hid k0; have HK1 := Lib.hid k1; have HK2 := Lib.hid k2; have HND := Lib.hid hnd; have HD := Lib.hid hD; have HG' := Lib.hid hg'; have HN := Lib.hid hnext; have HST := Lib.hid hst
        clear hrow hvcell hx hf hgr k0 k1 k2 hnd hD hg' hnext hst hgc hvs
        go_wp2
        refine abs_wp (fun V => V.heap[W.heap.size]? = some (.cells #[.int .i64 v] 3 (0, 0)) ∧ Below W.heap.size W V ∧ W.heap.size + 1 = V.heap.size) ⟨heap_new0 _ _, Below.new1 _ _, by simp⟩ ?_
        rintro V2 ⟨kv, hb4, hs4⟩
        have k0 := heap_later HK0.out hb4 (by omega)
        have k1 := heap_later HK1.out hb4 (by omega)
        have hx4 := heap_later HX.out hb4 (by omega)
        have c0 : V2.cell? ⟨w.heap.size, 0, none⟩ = some (.pointer (some ⟨x, 0, none⟩)) := by rw [cell_of_row _ _ _ _ _ _ k0]; rfl
        have cv : V2.cell? ⟨W.heap.size, 0, none⟩ = some (.int .i64 v) := by rw [cell_of_row _ _ _ _ _ _ kv]; rfl
        have xc := (propC_cells HG'.out.len hx4).2.2.1
        have x0 : V2.cell? ⟨x, 2 + v * 2, none⟩ = some (.int .u64 ((bget st'.1 v).inn : Nat)) := by rw [xc _ (by omega), bcellAt_inn]
        have x1 : V2.cell? ⟨x, 2 + v * 2 + 1, none⟩ = some (.int .u64 ((bget st'.1 v).can : Nat)) := by rw [← bcellAt_can]; exact xc (v * 2 + 1) (by omega)
        have hu := HG'.out.s12.u64.get v
        have hu1 := hu.1; have hu2 := hu.2
        have y0 : w.heap.size < V2.heap.size := by omega
        have y1 : W.heap.size < V2.heap.size := by omega
        have y2 : x < V2.heap.size := by omega
        have HKV := Lib.hid kv; have HB4 := Lib.hid hb4; have HS4 := Lib.hid hs4
        clear k0 k1 hx4 xc kv hb4 hs4 hu e0
        refine wp_region_qbt 15 (by kernel_rfl) (by kernel_rfl) ?_
        simp only [List.take_succ_cons, List.take_zero, List.drop_succ_cons, List.drop_zero]
        repeat go_big_quiet_step (fail)
        refine wpQuiet_nil ?_
        intro w5 hb5
        go_wp2_with fail
        refine (elements_any _ _).mono ?_
        rintro r w6 ⟨rfl, hw6⟩
        have hbW5 := HB4.out.trans (hb5.mono HB4.out.size)
        have hs5 : W.heap.size + 1 ≤ w5.heap.size := by have := hb5.size; have := HS4.out; omega
        have hb56 : Below w5.heap.size w5 w6 := by rw [← hw6]; exact Below.new1 _ _
        have kB : w6.heap[w5.heap.size]? = some (.cells #[.int .u64 ((openE (bget st'.1 v) : Nat) : Int)] 38 (0, 0)) := by rw [← hw6]; exact heap_new0 _ _
        have hs6 : w5.heap.size + 1 = w6.heap.size := by rw [← hw6]; simp
        clear hw6
        have hbW6 := hbW5.trans (hb56.mono hbW5.size)
        have k0 := heap_later HK0.out hbW6 (by omega)
        have k1 := heap_later HK1.out hbW6 (by omega)
        have k2 := heap_later HK2.out hbW6 (by omega)
        have kv := heap_later HKV.out (hb5.trans (hb56.mono hb5.size)) (by omega)
        have hx6 := heap_later HX.out hbW6 (by omega)
        have hD6 : ∀ D ∈ Ds, w.heap.size + 3 ≤ D ∧ D < W.heap.size ∧ w6.heap[D]? = some (.deferred (some [])) := fun D h => by
          have h1 := HD.out D h
          have h2 := (Array.getElem?_eq_some_iff.1 h1.2).1
          exact ⟨h1.1, h2, heap_later h1.2 hbW6 h2⟩
        have hf6 : FOwn (hole x (hole w5.heap.size w6)) base lv' st'.2 := HF.out.ck ((CK.below hbW6).fresh (by omega)).hole
        have hgr6 : Kept (One x) base w w6 := HGR.out.below hbW6
        have hu6 : U64 (openE (bget st'.1 v)) := hu2.diff
        have KB := Lib.hid kB; have K0 := Lib.hid k0; have K1 := Lib.hid k1; have K2 := Lib.hid k2; have KV := Lib.hid kv; have X6 := Lib.hid hx6; have D6 := Lib.hid hD6; have F6 := Lib.hid hf6; have GR6 := Lib.hid hgr6
        have HSZ := Lib.hid (show w.heap.size + 3 ≤ W.heap.size ∧ W.heap.size + 1 ≤ w5.heap.size ∧ w5.heap.size + 1 = w6.heap.size from ⟨hs, hs5, hs6⟩)
        clear kB k0 k1 k2 kv hx6 hD6 hf6 hgr6 hbW6 hbW5 hb56 hb5 hs5 hs6 c0 cv x0 x1 hu1 hu2 y0 y1 y2 HK0 HK1 HK2 HKV HB4 HS4 HX HF HGR HD HX3 HF3 HB3 HS3 hs
        go_wp2_with fail
        refine wpIn_wide.1 (rangeElems (n := 0) w5.heap.size (openE (bget st'.1 v)) rfl hu6 KB.out (by show w5.heap.size ≠ 0; have := HSZ.out; omega)
          (fun pre V => (∃ lv2, V.heap[x]? = some (.cells (propC (.slice ba p.bounds.length bc) (.slice (some ⟨rb, ro, none⟩) p.rules.length rc) (stE p rs j v st' pre).1 lv2 rs).toArray 91 (0, 0)) ∧ FOwn (hole x (hole w5.heap.size V)) base lv2 (stE p rs j v st' pre).2) ∧
            Kept (Two x w5.heap.size) base w6 V)
          (fun _ _ _ => False) ?hI (fun _ _ _ _ h _ => h) ?hT ⟨⟨lv', X6.out, F6.out⟩, Kept.refl _ _ _⟩ ?round ?done (fun _ _ _ _ _ h _ => h.elim))
        case hI =>
          rintro pre V V' ⟨⟨lv2, h1, h2⟩, h3⟩ ht
          exact ⟨⟨lv2, ht.same _ _ h1 (by have := HSZ.out; omega) (.inr rfl), h2.ck (CK.touched ht).hole⟩, h3.touched ht⟩
        case hT =>
          rintro pre V ⟨_, h7⟩
          exact HT.out.block (((GR6.out.through h7 (by have := HSZ.out; omega)).toBelow hBb (by omega) (fun q hq h => by unfold One at h; omega)).block 0 hB0)
        case done =>
          rintro D V hDw ⟨⟨lv2, h1, h2⟩, h7⟩ hDm
          have g0 := h7.same _ _ K0.out (two_no (by omega) (by have := HSZ.out; omega)) (.inr (nf (by decide)))
          have g1 := h7.same _ _ K1.out (two_no (by omega) (by have := HSZ.out; omega)) (.inr (nf (by decide)))
          have g2 := h7.same _ _ K2.out (two_no (by omega) (by have := HSZ.out; omega)) (.inr (nf (by decide)))
          have gD : ∀ D' ∈ D :: Ds, w.heap.size + 3 ≤ D' ∧ V.heap[D']? = some (.deferred (some [])) := fun D' h => by
            rcases List.mem_cons.1 h with rfl | h
            · exact ⟨by have := HSZ.out; omega, hDm⟩
            · have := D6.out D' h
              exact ⟨this.1, h7.same _ _ this.2.2 (two_no (by omega) (by have := HSZ.out; omega)) (.inr trivial)⟩
          have gnd : (D :: Ds).Nodup := List.nodup_cons.2 ⟨fun h => by have := (D6.out D h).2.1; have := HSZ.out; omega, HND.out⟩
          have ggr : Kept (One x) base w V := GR6.out.through h7 (by have := HSZ.out; omega)
          have hf2 := h2.ck (CK.fill w5.heap.size V).hole
          have hsV : w.heap.size + 3 ≤ V.heap.size := by have := HSZ.out; have := h7.size; omega
          have G0 := Lib.hid g0; have G1 := Lib.hid g1; have G2 := Lib.hid g2; have GD := Lib.hid gD; have GND := Lib.hid gnd; have GGR := Lib.hid ggr; have HF2 := Lib.hid hf2; have H1 := Lib.hid h1
          clear g0 g1 g2 gD gnd ggr hf2 h1 h2 h7 hDm
          go_wp2
          refine ⟨⟨rfl, k + 1, D :: Ds, lv2, ⟨rfl, rfl, rfl, rfl, rfl, rfl, rfl, by go_num⟩, rfl, hlt, by rw [HN.out]; exact H1.out, by rw [HN.out]; exact HF2.out, GGR.out, G0.out, G1.out, G2.out, hsV, GND.out, GD.out⟩, ?_⟩
          simp [intOf]; omega
        case round =>
          intro lp pre e rest V hel
          gi_wp2
          refine ⟨trivial, ?_⟩
          rintro V2 ⟨⟨lv2, h1, h2⟩, h7⟩ hBs0 hL2
          have hBs := hBs0.lt
          have HBs := Lib.hid hBs0; clear hBs0
          obtain ⟨hg2, he, hob⟩ := Good.at (rs := rs) (j := j) hv8 HG'.out hel
          have hsn := stE_snoc p rs j v st' pre e
          obtain ⟨st2, hst2⟩ : ∃ st2, st2 = stE p rs j v st' pre := ⟨_, rfl⟩
          rw [← hst2] at h1 h2 hg2 hob hsn
          have g0 := h7.same _ _ K0.out (two_no (by omega) (by have := HSZ.out; omega)) (.inr (nf (by decide)))
          have g1 := h7.same _ _ K1.out (two_no (by omega) (by have := HSZ.out; omega)) (.inr (nf (by decide)))
          have g2 := h7.same _ _ K2.out (two_no (by omega) (by have := HSZ.out; omega)) (.inr (nf (by decide)))
          have gv := h7.same _ _ KV.out (two_no (by have := HSZ.out; omega) (by have := HSZ.out; omega)) (.inr (nf (by decide)))
          have a1 : V2.cell? ⟨w.heap.size + 1, 0, none⟩ = some (.int .i64 j) := by rw [cell_of_row _ _ _ _ _ _ g1]; rfl
          have av : V2.cell? ⟨W.heap.size, 0, none⟩ = some (.int .i64 v) := by rw [cell_of_row _ _ _ _ _ _ gv]; rfl
          have P0 := Lib.hid g0; have P1 := Lib.hid g1; have P2 := Lib.hid g2; have PV := Lib.hid gv; have HX2 := Lib.hid h1; have HF2 := Lib.hid h2; have HG2 := Lib.hid hg2; have HSN := Lib.hid hsn; have HOB := Lib.hid hob
          have h6 := h7.size; have H7 := Lib.hid h7; have HEL := Lib.hid hel
          clear g0 g1 g2 gv h1 h2 hg2 hsn hob hst2 h7 hel
          gi_wp2_with fail
          refine abs_in (fun V => V.heap[V2.heap.size]? = some (.cells #[.int .i64 v, .int .i64 e, .bool true, .int .i64 j, .slice none 0 0] 56 (0, 0)) ∧ Below V2.heap.size V2 V) ⟨heap_new0 _ _, Below.new1 _ _⟩ ?_
          rintro V8 ⟨k8, hb8⟩
          have K9 := Lib.hid k8
          clear k8 a1 av
          have g0 := heap_later P0.out hb8 (by have := HSZ.out; omega)
          have g1 := heap_later P1.out hb8 (by have := HSZ.out; omega)
          have g2 := heap_later P2.out hb8 (by have := HSZ.out; omega)
          have gv := heap_later PV.out hb8 (by have := HSZ.out; omega)
          have gx := heap_later HX2.out hb8 (by have := HSZ.out; omega)
          have hf8 : FOwn (hole x (hole w5.heap.size V8)) base lv2 st2.2 := HF2.out.ck (CK.below hb8).hole.hole
          have h78 : Kept (Two x w5.heap.size) base w6 V8 := H7.out.below hb8
          have hk8 : Keep w5.heap.size w6.heap.size V2 V8 := (Keep.refl _ _ _).below hb8
          have G0 := Lib.hid g0; have G1 := Lib.hid g1; have G2 := Lib.hid g2; have GV := Lib.hid gv; have GX := Lib.hid gx; have GF := Lib.hid hf8; have H8 := Lib.hid h78; have HK8 := Lib.hid hk8
          have O8 := Lib.hid (show w6.heap.size ≤ V8.heap.size from H8.out.size)
          have HBW8 := Lib.hid (show Below B w V8 from (GR6.out.through H8.out (by have := HSZ.out; omega)).toBelow hBb (by omega) (fun q hq h => by unfold One at h; omega))
          have zz : V2.heap.size < V8.heap.size := (Array.getElem?_eq_some_iff.1 K9.out).1
          have zl : w5.heap.size < V8.heap.size := by omega
          have zx : x < V8.heap.size := by have := HSZ.out; omega
          have z0 : w.heap.size < V8.heap.size := by have := HSZ.out; omega
          have z1 : w.heap.size + 1 < V8.heap.size := by have := HSZ.out; omega
          have z2 : w.heap.size + 2 < V8.heap.size := by have := HSZ.out; omega
          have zv : W.heap.size < V8.heap.size := by have := HSZ.out; omega
          clear g0 g1 g2 gv gx hf8 h78 hk8
          have HB28 := Lib.hid hb8; clear hb8
          have hpr := prop_row HG2.out.len GX.out
          have HPR := Lib.hid hpr
          clear hpr
          have b0 : V8.cell? ⟨w.heap.size, 0, none⟩ = some (.pointer (some ⟨x, 0, none⟩)) := by rw [cell_of_row _ _ _ _ _ _ G0.out]; rfl
          have d0 : V8.cell? ⟨w.heap.size + 2, 0, none⟩ = some (.int .i64 (rget p.rules j).kind) := by rw [cell_of_row _ _ _ _ _ _ G2.out]; rfl
          have d1 : V8.cell? ⟨w.heap.size + 2, 1, none⟩ = some (.slice (some ⟨vb, vo, none⟩) (rget p.rules j).vars.length vc) := by rw [cell_of_row _ _ _ _ _ _ G2.out]; rfl
          have d2 : V8.cell? ⟨w.heap.size + 2, 2, none⟩ = some (.int .i64 (rget p.rules j).low) := by rw [cell_of_row _ _ _ _ _ _ G2.out]; rfl
          have d3 : V8.cell? ⟨w.heap.size + 2, 3, none⟩ = some (.int .i64 (rget p.rules j).high) := by rw [cell_of_row _ _ _ _ _ _ G2.out]; rfl
          have f0 : V8.cell? ⟨V2.heap.size, 0, none⟩ = some (.int .i64 v) := by rw [cell_of_row _ _ _ _ _ _ K9.out]; rfl
          have f1 : V8.cell? ⟨V2.heap.size, 1, none⟩ = some (.int .i64 e) := by rw [cell_of_row _ _ _ _ _ _ K9.out]; rfl
          have f2 : V8.cell? ⟨V2.heap.size, 2, none⟩ = some (.bool true) := by rw [cell_of_row _ _ _ _ _ _ K9.out]; rfl
          have f3 : V8.cell? ⟨V2.heap.size, 3, none⟩ = some (.int .i64 j) := by rw [cell_of_row _ _ _ _ _ _ K9.out]; rfl
          have f4 : V8.cell? ⟨V2.heap.size, 4, none⟩ = some (.slice none 0 0) := by rw [cell_of_row _ _ _ _ _ _ K9.out]; rfl
          have hp : ∀ d os, Gives Tryz.prog 99 #[.agg (bCells st2.1).toArray, .agg #[.int .i64 (rget p.rules j).kind, .slice (some ⟨vb, vo, none⟩) (rget p.rules j).vars.length vc, .int .i64 (rget p.rules j).low, .int .i64 (rget p.rules j).high], .agg #[.int .i64 v, .int .i64 e, .bool true, .int .i64 j, .slice none 0 0]] (Go.Sort.grow (redrawn V8 d) os) (.bool (!possB (withB st2.1 v e (!true)) (rget p.rules j))) := fun d os => by
            have hbg : Below B w (Go.Sort.grow (redrawn V8 d) os) := HBW8.out.trans ((below_regrown V8 d os).mono (by omega))
            have hsg := (below_regrown V8 d os).size
            exact follows_any _ HG2.out.len HG2.out.s12 _ HFIT.out _ v e true j none 0 0 hv8 he _ (HVV.out.below hbg (Nat.le_refl _)) (by omega) (HT.out.below hbg hB0) (by omega)
          have HP := Lib.hid hp; clear hp
          cases hT1 : possB (withB st2.1 v e (!true)) (rget p.rules j) <;> rw [hT1] at HP
          case false =>
            refine wpIn_region_qb (by kernel_rfl) (by kernel_rfl) (by rintro ⟨a, w, h⟩; exact h) ?_
            repeat (first | (go_big_quiet_want; refine quiet_loadB _ rfl rfl (rowQ HPR.out zx) ?_; simp only [Act.put, List.setIfInBounds_toArray, List.set_cons_zero, List.set_cons_succ]; go_big_quiet_on) | go_big_quiet_step ((with_reducible exact Gives.quiet (HP.out _ _))))
            refine wpQuiet_nil ?_
            intro w9 hb9
            have hb29 := HB28.out.trans (hb9.mono HB28.out.size)
            have k9 := heap_later K9.out hb9 zz
            clear G0 G1 G2 GV GX GF H8 HK8 O8 HBW8 HPR HP b0 d0 d1 d2 d3 f0 f1 f2 f3 f4 zx z0 zv zz z1 z2 zl
            clear K9
            have K9 := Lib.hid k9
            have g0 := heap_later P0.out hb29 (by have := HSZ.out; omega)
            have g1 := heap_later P1.out hb29 (by have := HSZ.out; omega)
            have g2 := heap_later P2.out hb29 (by have := HSZ.out; omega)
            have gv := heap_later PV.out hb29 (by have := HSZ.out; omega)
            have gx := heap_later HX2.out hb29 (by have := HSZ.out; omega)
            have hf8 : FOwn (hole x (hole w5.heap.size w9)) base lv2 st2.2 := HF2.out.ck (CK.below hb29).hole.hole
            have h78 : Kept (Two x w5.heap.size) base w6 w9 := H7.out.below hb29
            have hk8 : Keep w5.heap.size w6.heap.size V2 w9 := (Keep.refl _ _ _).below hb29
            have G0 := Lib.hid g0; have G1 := Lib.hid g1; have G2 := Lib.hid g2; have GV := Lib.hid gv; have GX := Lib.hid gx; have GF := Lib.hid hf8; have H8 := Lib.hid h78; have HK8 := Lib.hid hk8
            have O8 := Lib.hid (show w6.heap.size ≤ w9.heap.size from H8.out.size)
            have HBW8 := Lib.hid (show Below B w w9 from (GR6.out.through H8.out (by have := HSZ.out; omega)).toBelow hBb (by omega) (fun q hq h => by unfold One at h; omega))
            have zz : V2.heap.size < w9.heap.size := (Array.getElem?_eq_some_iff.1 K9.out).1
            have zl : w5.heap.size < w9.heap.size := by omega
            have zx : x < w9.heap.size := by have := HSZ.out; omega
            have z0 : w.heap.size < w9.heap.size := by have := HSZ.out; omega
            have z1 : w.heap.size + 1 < w9.heap.size := by have := HSZ.out; omega
            have z2 : w.heap.size + 2 < w9.heap.size := by have := HSZ.out; omega
            have zv : W.heap.size < w9.heap.size := by have := HSZ.out; omega
            clear g0 g1 g2 gv gx hf8 h78 hk8
            have HNX := Lib.hid (show stepE p rs j v st2 e = (withB st2.1 v e true, if rs then st2.2 ++ [⟨v, e, true, j, whyOf p st2.2 ⟨v, e, true, j, []⟩⟩] else st2.2) by unfold stepE tryE; rw [show possB (withB st2.1 v e false) (rget p.rules j) = false from hT1]; rfl)
            have HB29 := Lib.hid hb29
            clear k9 hb9 hb29 HB28
            have m0 : w9.cell? ⟨w.heap.size, 0, none⟩ = some (.pointer (some ⟨x, 0, none⟩)) := by rw [cell_of_row _ _ _ _ _ _ G0.out]; rfl
            have mv : w9.cell? ⟨W.heap.size, 0, none⟩ = some (.int .i64 v) := by rw [cell_of_row _ _ _ _ _ _ GV.out]; rfl
            have m2 : w9.cell? ⟨V2.heap.size, 2, none⟩ = some (.bool true) := by rw [cell_of_row _ _ _ _ _ _ K9.out]; rfl
            have mrs : w9.cell? ⟨x, 19, none⟩ = some (.bool rs) := (propC_cells HG2.out.len GX.out).2.2.2.2.1
            have zx : x < w9.heap.size := by have := HSZ.out; have := O8.out; omega
            have z0 : w.heap.size < w9.heap.size := by have := HSZ.out; have := O8.out; omega
            have zv : W.heap.size < w9.heap.size := by have := HSZ.out; have := O8.out; omega
            have zz : V2.heap.size < w9.heap.size := (Array.getElem?_eq_some_iff.1 K9.out).1
            have hpr := prop_row HG2.out.len GX.out
            have HPR := Lib.hid hpr
            clear hpr
            have hb8 := HG2.out.len
            have hu64 := HG2.out.s12.u64
            have HU64 := Lib.hid hu64
            clear hu64
            cases rs
            case false =>
              gi_wp2_with fail
              refine wpIn_region_qbt 12 (by kernel_rfl) (by kernel_rfl) (by rintro ⟨a, w, h⟩; exact h) ?_
              simp only [List.take_succ_cons, List.take_zero, List.drop_succ_cons, List.drop_zero]
              repeat (first | (go_big_quiet_want; refine quiet_loadB _ rfl rfl (rowQ HPR.out zx) ?_; simp only [Act.put, List.setIfInBounds_toArray, List.set_cons_zero, List.set_cons_succ]; go_big_quiet_on) | go_big_quiet_step ((with_reducible exact Gives.quiet (with_any _ v e _ _ hb8 hv8 (by omega) HU64.out))))
              refine wpQuiet_nil ?_
              intro w10 hb10
              have gx := heap_later GX.out hb10 zx
              have hps := prop_store (now' := withB st2.1 v e true) HG2.out.len (by rw [withB_length]; exact hb8) gx
              have hfin : elemPost w5.heap.size w6.heap.size (fun pre V => (∃ lv2, V.heap[x]? = some (.cells (propC (.slice ba p.bounds.length bc) (.slice (some ⟨rb, ro, none⟩) p.rules.length rc) (stE p false j v st' pre).1 lv2 false).toArray 91 (0, 0)) ∧ FOwn (hole x (hole w5.heap.size V)) base lv2 (stE p false j v st' pre).2) ∧ Kept (Two x w5.heap.size) base w6 V) (fun _ _ _ => False) (pre ++ [e]) V2 .normal { tmps := #[], defers := [] } (w10.setCells x 2 (bCells (withB st2.1 v e true))) := by
                refine ⟨Keep.setCells (by have := HSZ.out; omega) _ _ _ (HK8.out.below hb10), ⟨lv2, ?_, ?_⟩, (H8.out.below hb10).setCells (.inl rfl) _ _ _⟩
                · rw [HSN.out, HNX.out]; exact hps.2.2
                · rw [HSN.out, HNX.out]; exact GF.out.ck (CK.prop hb10)
              have HPS := Lib.hid hps; have HFIN := Lib.hid hfin
              clear gx hps hfin hb10
              go_wp2_with (refine wpList_store_mid rfl 85 _ _ rfl _ _ _ rfl rfl HPS.out.1 HPS.out.2.1 (all_oneCell_toArray (bCells_one _)) ?_)
              exact HFIN.out
            case true =>
              have n0 : w9.cell? ⟨V2.heap.size, 0, none⟩ = some (.int .i64 v) := by rw [cell_of_row _ _ _ _ _ _ K9.out]; rfl
              have n1 : w9.cell? ⟨V2.heap.size, 1, none⟩ = some (.int .i64 e) := by rw [cell_of_row _ _ _ _ _ _ K9.out]; rfl
              have n3 : w9.cell? ⟨V2.heap.size, 3, none⟩ = some (.int .i64 j) := by rw [cell_of_row _ _ _ _ _ _ K9.out]; rfl
              have n4 : w9.cell? ⟨V2.heap.size, 4, none⟩ = some (.slice none 0 0) := by rw [cell_of_row _ _ _ _ _ _ K9.out]; rfl
              have hsB : B ≤ w9.heap.size := by have := HSZ.out; have := O8.out; omega
              have hfc : Fcts w9 w9.heap.size lv2 st2.2 := (GF.out.ck ((CK.fill x _).trans (CK.fill _ _))).fcts (by have := HG2.out.few; omega) (fun i hi => by have := HG2.out.short i hi; omega)
              have hwy := why_any p st2.2 v e j true st2.1 true _ _ lv2 x w9 (B := w9.heap.size) ((HBV.out.below HBW8.out (Nat.le_refl _)).mono hsB) ((HRV.out.below HBW8.out (Nat.le_refl _)).mono hsB) hfc (Nat.le_refl _) GX.out HG2.out.len HPO.out HG2.out.fit (by have := HG2.out.few; omega) hv8 he hjl (HT.out.below HBW8.out hB0) (by omega)
              have HWY := Lib.hid hwy
              clear hfc hwy
              gi_wp2_with fail
              refine (CallsIn.inRound lp (callsIn_wide.2 HWY.out)).mono ?_
              rintro r w10 ⟨yv, rfl, hy, hb10⟩
              obtain ⟨ya, yn, yc, rfl⟩ : ∃ a n c, yv = .slice a n c := by
                rcases hy.2 with ⟨h, _⟩ | ⟨g, cap, cur, h, _⟩
                · exact ⟨_, _, _, h⟩
                · exact ⟨_, _, _, h⟩
              have k10 := heap_later K9.out hb10 zz
              have hb20 := HB29.out.trans (hb10.mono HB29.out.size)
              have q4 : w10.cell? ⟨V2.heap.size, 4, none⟩ = some (.slice none 0 0) := by rw [cell_of_row _ _ _ _ _ _ k10]; rfl
              have q4f : w10.frozen? ⟨V2.heap.size, 4, none⟩ = false := by simp [World.frozen?, k10]
              have K10 := Lib.hid k10; have HY := Lib.hid hy; have HB20 := Lib.hid hb20
              clear k10 hy hb20 hb10 m0 mv m2 mrs n0 n1 n3 n4 HWY
              gi_wp2_with fail
              refine abs_in (fun V => V.heap[V2.heap.size]? = some (.cells #[.int .i64 v, .int .i64 e, .bool true, .int .i64 j, .slice ya yn yc] 56 (0, 0)) ∧ Below V2.heap.size V2 V ∧
                V.ownsRow w9.heap.size 3 1 (.slice ya yn yc) (whyOf p st2.2 ⟨v, e, true, j, []⟩).length (intsV (whyOf p st2.2 ⟨v, e, true, j, []⟩)))
                ⟨by simp only [World.setCell, Array.getElem?_modify, if_true, K10.out, Option.map_some]; rfl, HB20.out.setCell (Nat.le_refl _) _, ownsRow_setCell_other HY.out (fun hh => by have := (HY.out.lt _ hh).1; simp at this; omega) _⟩ ?_
              have zzo := zz
              have hs9 : w6.heap.size ≤ w9.heap.size := O8.out
              clear q4 q4f K9 K10 HY HB20 HB29 G0 G1 G2 GV GX GF H8 HK8 O8 HBW8 HPR zx z0 zv zz z1 z2 zl
              rintro W11 ⟨k11, hb11, hy11⟩
              refine wpIn_region_all (by kernel_rfl) (by kernel_rfl) (by rintro ⟨a, w, h⟩; exact h) ?_
              refine abs_any (fun V => V.heap[V2.heap.size]? = some (.cells #[.int .i64 v, .int .i64 e, .bool true, .int .i64 j, .slice ya yn yc] 56 (0, 0)) ∧ Below V2.heap.size V2 V ∧
                V.ownsRow w9.heap.size 3 1 (.slice ya yn yc) (whyOf p st2.2 ⟨v, e, true, j, []⟩).length (intsV (whyOf p st2.2 ⟨v, e, true, j, []⟩))) ⟨k11, Go.Proofs.YtilbbnjfaoldoaaGreatDoor.Below.drewn hb11, hy11⟩ ?_
              clear k11 hb11 hy11
              clear W11
              rintro W11 ⟨k11, hb11, hy11⟩
              have K9 := Lib.hid k11; have HY := Lib.hid hy11
              clear k11 hy11
              have g0 := heap_later P0.out hb11 (by have := HSZ.out; omega)
              have g1 := heap_later P1.out hb11 (by have := HSZ.out; omega)
              have g2 := heap_later P2.out hb11 (by have := HSZ.out; omega)
              have gv := heap_later PV.out hb11 (by have := HSZ.out; omega)
              have gx := heap_later HX2.out hb11 (by have := HSZ.out; omega)
              have hf8 : FOwn (hole x (hole w5.heap.size W11)) base lv2 st2.2 := HF2.out.ck (CK.below hb11).hole.hole
              have h78 : Kept (Two x w5.heap.size) base w6 W11 := H7.out.below hb11
              have hk8 : Keep w5.heap.size w6.heap.size V2 W11 := (Keep.refl _ _ _).below hb11
              have G0 := Lib.hid g0; have G1 := Lib.hid g1; have G2 := Lib.hid g2; have GV := Lib.hid gv; have GX := Lib.hid gx; have GF := Lib.hid hf8; have H8 := Lib.hid h78; have HK8 := Lib.hid hk8
              have O8 := Lib.hid (show w6.heap.size ≤ W11.heap.size from H8.out.size)
              have HBW8 := Lib.hid (show Below B w W11 from (GR6.out.through H8.out (by have := HSZ.out; omega)).toBelow hBb (by omega) (fun q hq h => by unfold One at h; omega))
              have zz : V2.heap.size < W11.heap.size := (Array.getElem?_eq_some_iff.1 K9.out).1
              have zl : w5.heap.size < W11.heap.size := by omega
              have zx : x < W11.heap.size := by have := HSZ.out; omega
              have z0 : w.heap.size < W11.heap.size := by have := HSZ.out; omega
              have z1 : w.heap.size + 1 < W11.heap.size := by have := HSZ.out; omega
              have z2 : w.heap.size + 2 < W11.heap.size := by have := HSZ.out; omega
              have zv : W.heap.size < W11.heap.size := by have := HSZ.out; omega
              clear g0 g1 g2 gv gx hf8 h78 hk8
              have HB11 := Lib.hid hb11; clear hb11
              refine wpAny_of_held (S := fun V => V.cell? ⟨w.heap.size, 0, none⟩ = some (.pointer (some ⟨x, 0, none⟩)) ∧ V.cell? ⟨V2.heap.size, 0, none⟩ = some (.int .i64 v) ∧ V.cell? ⟨V2.heap.size, 1, none⟩ = some (.int .i64 e) ∧ V.cell? ⟨V2.heap.size, 2, none⟩ = some (.bool true) ∧ V.cell? ⟨V2.heap.size, 3, none⟩ = some (.int .i64 j) ∧ V.cell? ⟨V2.heap.size, 4, none⟩ = some (.slice ya yn yc)) _ _ _ _ ?_
              have hHeld : (fun V : World => V.cell? ⟨w.heap.size, 0, none⟩ = some (.pointer (some ⟨x, 0, none⟩)) ∧ V.cell? ⟨V2.heap.size, 0, none⟩ = some (.int .i64 v) ∧ V.cell? ⟨V2.heap.size, 1, none⟩ = some (.int .i64 e) ∧ V.cell? ⟨V2.heap.size, 2, none⟩ = some (.bool true) ∧ V.cell? ⟨V2.heap.size, 3, none⟩ = some (.int .i64 j) ∧ V.cell? ⟨V2.heap.size, 4, none⟩ = some (.slice ya yn yc)) W11 :=
                ⟨by rw [cell_of_row _ _ _ _ _ _ G0.out]; rfl, by rw [cell_of_row _ _ _ _ _ _ K9.out]; rfl, by rw [cell_of_row _ _ _ _ _ _ K9.out]; rfl, by rw [cell_of_row _ _ _ _ _ _ K9.out]; rfl, by rw [cell_of_row _ _ _ _ _ _ K9.out]; rfl, by rw [cell_of_row _ _ _ _ _ _ K9.out]; rfl⟩
              refine wpAnyH_take (i := 0) (oi := { dst := some 80, op := Op.load 88 (Operand.tmp 2), type := 88, pos := "sets.go:288", after := #[], guard := none }) (v := ?_) rfl (by kernel_rfl) (by kernel_rfl) (by kernel_rfl) (fun _ _ _ h => h) (Or.inl ⟨by rfl, ?_⟩) (by assumption) ?_
              rotate_left
              · intro w hSw
                try dsimp only at hSw
                obtain ⟨hs0, hs1, hs2, hs3, hs4, hs5⟩ := hSw
                go_simp
                try with_reducible rfl
              simp only [Act.put, List.setIfInBounds_toArray, List.set_cons_zero, List.set_cons_succ]
              refine wpAnyH_take (i := 1) (oi := { dst := some 81, op := Op.load 88 (Operand.tmp 2), type := 88, pos := "sets.go:288", after := #[], guard := none }) (v := ?_) rfl (by kernel_rfl) (by kernel_rfl) (by kernel_rfl) (fun _ _ _ h => h) (Or.inl ⟨by rfl, ?_⟩) (by assumption) ?_
              rotate_left
              · intro w hSw
                try dsimp only at hSw
                obtain ⟨hs0, hs1, hs2, hs3, hs4, hs5⟩ := hSw
                go_simp
                try with_reducible rfl
              simp only [Act.put, List.setIfInBounds_toArray, List.set_cons_zero, List.set_cons_succ]
              refine wpAnyH_take (i := 2) (oi := { dst := some 82, op := Op.nilCheck (Operand.tmp 81), type := 0, pos := "sets.go:288", after := #[{ on := 1, ground := Ground.data }], guard := none }) (v := ?_) rfl (by kernel_rfl) (by kernel_rfl) (by kernel_rfl) (fun _ _ _ h => h) (Or.inl ⟨by rfl, ?_⟩) (by assumption) ?_
              rotate_left
              · intro w hSw
                try dsimp only at hSw
                obtain ⟨hs0, hs1, hs2, hs3, hs4, hs5⟩ := hSw
                go_simp
                try with_reducible rfl
              simp only [Act.put, List.setIfInBounds_toArray, List.set_cons_zero, List.set_cons_succ]
              refine wpAnyH_take (i := 3) (oi := { dst := some 83, op := Op.fieldAddr 91 (Operand.tmp 82) 2, type := 0, pos := "sets.go:288", after := #[{ on := 2, ground := Ground.data }], guard := none }) (v := ?_) rfl (by kernel_rfl) (by kernel_rfl) (by kernel_rfl) (fun _ _ _ h => h) (Or.inl ⟨by rfl, ?_⟩) (by assumption) ?_
              rotate_left
              · intro w hSw
                try dsimp only at hSw
                obtain ⟨hs0, hs1, hs2, hs3, hs4, hs5⟩ := hSw
                go_simp
                try with_reducible rfl
              simp only [Act.put, List.setIfInBounds_toArray, List.set_cons_zero, List.set_cons_succ]
              refine wpAnyH_take (i := 5) (oi := { dst := some 85, op := Op.load 56 (Operand.tmp 8), type := 56, pos := "sets.go:288", after := #[], guard := none }) (v := ?_) rfl (by kernel_rfl) (by kernel_rfl) (by kernel_rfl) (fun _ _ _ h => h) (Or.inl ⟨by rfl, ?_⟩) (by assumption) ?_
              rotate_left
              · intro w hSw
                try dsimp only at hSw
                obtain ⟨hs0, hs1, hs2, hs3, hs4, hs5⟩ := hSw
                go_simp
                try with_reducible rfl
              simp only [Act.put, List.setIfInBounds_toArray, List.set_cons_zero, List.set_cons_succ]
              have x18 : W11.cell? ⟨x, 18, none⟩ = some lv2 := (propC_cells HG2.out.len GX.out).2.2.2.1
              obtain ⟨cs, hc0, hc2⟩ := GF.out
              have hownx := hole_own hc0
              have hownB := hole_own (own_ck hc0 (CK.fill x _))
              have HBs11 := Lib.hid (HBs.out.same fun o ho => heap_later ho HB11.out (Array.getElem?_eq_some_iff.1 ho).1)
              refine wpAnyH_ready (rs := [4, 6]) (by kernel_rfl) (by simp) ?_
              refine AllReadyH.cons (o := { dst := some 84, op := Op.load 51 (Operand.tmp 83), type := 51, pos := "sets.go:288", after := #[{ on := 3, ground := Ground.data }], guard := none }) rfl (fun K hK => ?_) (AllReadyH.cons (o := { dst := some 86, op := Op.buildSlice 51 1 #[(0, Operand.tmp 85)], type := 51, pos := "sets.go:288", after := #[{ on := 5, ground := Ground.data }], guard := none }) rfl (fun K hK => ?_) AllReadyH.nil)
              · go_simp
                refine hK.out _ _ hHeld (fun _ => ?_)
                clear hK K
                try simp only [Act.put, List.setIfInBounds_toArray, List.set_cons_zero, List.set_cons_succ]
                refine wpAnyH_ready (rs := [6]) (by kernel_rfl) (by simp) ?_
                refine AllReadyH.cons (o := { dst := some 86, op := Op.buildSlice 51 1 #[(0, Operand.tmp 85)], type := 51, pos := "sets.go:288", after := #[{ on := 5, ground := Ground.data }], guard := none }) rfl (fun K hK => ?_) AllReadyH.nil
                go_simp
                have hbx0 := Below.new1 W11 (.cells #[.int .i64 v, .int .i64 e, .bool true, .int .i64 j, .slice ya yn yc] 56)
                have g0b := heap_later G0.out hbx0 z0
                have k9b := heap_later K9.out hbx0 zz
                have hHeld2 : (fun V : World => V.cell? ⟨w.heap.size, 0, none⟩ = some (.pointer (some ⟨x, 0, none⟩)) ∧ V.cell? ⟨V2.heap.size, 0, none⟩ = some (.int .i64 v) ∧ V.cell? ⟨V2.heap.size, 1, none⟩ = some (.int .i64 e) ∧ V.cell? ⟨V2.heap.size, 2, none⟩ = some (.bool true) ∧ V.cell? ⟨V2.heap.size, 3, none⟩ = some (.int .i64 j) ∧ V.cell? ⟨V2.heap.size, 4, none⟩ = some (.slice ya yn yc)) (W11.alloc (.cells #[.int .i64 v, .int .i64 e, .bool true, .int .i64 j, .slice ya yn yc] 56)) :=
                  ⟨by rw [cell_of_row _ _ _ _ _ _ g0b]; rfl, by rw [cell_of_row _ _ _ _ _ _ k9b]; rfl, by rw [cell_of_row _ _ _ _ _ _ k9b]; rfl, by rw [cell_of_row _ _ _ _ _ _ k9b]; rfl, by rw [cell_of_row _ _ _ _ _ _ k9b]; rfl, by rw [cell_of_row _ _ _ _ _ _ k9b]; rfl⟩
                refine hK.out _ _ hHeld2 (fun _ => ?_)
                clear hK K hbx0 g0b k9b hHeld2
                try simp only [Act.put, List.setIfInBounds_toArray, List.set_cons_zero, List.set_cons_succ]
                refine abs_anyH (fun V => Below W11.heap.size W11 V ∧ V.heap[W11.heap.size]? = some (.cells #[.int .i64 v, .int .i64 e, .bool true, .int .i64 j, .slice ya yn yc] 56 (0, 0))) ⟨Below.new1 _ _, heap_new0 _ _⟩ ?_
                rintro X1 ⟨hbx, kx⟩
                have g0x := heap_later G0.out hbx z0
                have k9x := heap_later K9.out hbx zz
                have HELD1 := Lib.hid (show (fun V : World => V.cell? ⟨w.heap.size, 0, none⟩ = some (.pointer (some ⟨x, 0, none⟩)) ∧ V.cell? ⟨V2.heap.size, 0, none⟩ = some (.int .i64 v) ∧ V.cell? ⟨V2.heap.size, 1, none⟩ = some (.int .i64 e) ∧ V.cell? ⟨V2.heap.size, 2, none⟩ = some (.bool true) ∧ V.cell? ⟨V2.heap.size, 3, none⟩ = some (.int .i64 j) ∧ V.cell? ⟨V2.heap.size, 4, none⟩ = some (.slice ya yn yc)) X1 from ⟨by rw [cell_of_row _ _ _ _ _ _ g0x]; rfl, by rw [cell_of_row _ _ _ _ _ _ k9x]; rfl, by rw [cell_of_row _ _ _ _ _ _ k9x]; rfl, by rw [cell_of_row _ _ _ _ _ _ k9x]; rfl, by rw [cell_of_row _ _ _ _ _ _ k9x]; rfl, by rw [cell_of_row _ _ _ _ _ _ k9x]; rfl⟩)
                have KX := Lib.hid kx; have HBX := Lib.hid hbx
                clear g0x k9x kx
                refine wpAnyH_ready (rs := [7]) (by kernel_rfl) (by simp) ?_
                refine AllReadyH.cons (o := { dst := some 87, op := Op.call { callee := Callee.builtin Builtin.append, args := #[Operand.tmp 84, Operand.tmp 86], argTypes := #[51, 51] }, type := 51, pos := "sets.go:288", after := #[{ on := 4, ground := Ground.data }, { on := 6, ground := Ground.data }], guard := none }) rfl (fun K hK => ?_) AllReadyH.nil
                rw [if_pos (by rfl)]
                obtain ⟨i0, hin, hz0, hz1, hz2⟩ := info_parts Tryz.info56
                have hck1 := (((CK.fill x _).trans (CK.fill w5.heap.size W11))).trans (CK.below HBX.out)
                have hcs1 := own_ck hc0 hck1
                have hfew := HG2.out.few
                refine wp_append_own X1 _ _ 51 rfl base 56 i0 _ 5 56 Tryz.underlying51 hin hz0 hz1 hz2 rfl (by decide) lv2 st2.2.length cs rfl hcs1 ⟨W11.heap.size, 0, none⟩ 1 1 [.int .i64 v, .int .i64 e, .bool true, .int .i64 j, .slice ya yn yc] rfl rfl ?_ ?_ (by unfold maxLen; omega) (by omega) (by have := hbx.size; have := HSZ.out; have := O8.out; omega) ?_
                · intro q u hq
                  rw [Addr.add_lit, Nat.zero_add, cell_of_row _ _ _ _ _ _ KX.out, List.getElem?_toArray]; exact hq
                · intro u hu
                  simp only [List.mem_cons, List.not_mem_nil, or_false] at hu
                  rcases hu with rfl | rfl | rfl | rfl | rfl <;> rfl
                intro v' X2 hown2 hgrow2 _
                have hlt2 : ∀ g, lv2.ownBlock = some g → g < V2.heap.size := fun g hg => by
                  obtain ⟨cs0, hc0', _⟩ := HF2.out
                  have := (hc0'.lt g hg).2
                  rwa [hole_size, hole_size] at this
                have g0x := heap_later G0.out HBX.out z0
                have k9x := heap_later K9.out HBX.out zz
                have gvx := heap_later GV.out HBX.out zv
                have gxx := heap_later GX.out HBX.out zx
                have sz1 := HBX.out.size
                have g02 := (hgrow2.block w.heap.size (by omega) (fun hh => own_apart hcs1 g0x (by decide) _ hh.symm rfl)).trans g0x
                have gv2 := (hgrow2.block W.heap.size (by omega) (fun hh => own_apart hcs1 gvx (by decide) _ hh.symm rfl)).trans gvx
                have k92 := (hgrow2.block V2.heap.size (by omega) (fun hh => by have := hlt2 _ hh.symm; omega)).trans k9x
                have gx2 := (hgrow2.block x (by omega) (fun hh => hownx _ hh.symm rfl)).trans gxx
                have hS2 : (fun V : World => V.cell? ⟨w.heap.size, 0, none⟩ = some (.pointer (some ⟨x, 0, none⟩)) ∧ V.cell? ⟨V2.heap.size, 0, none⟩ = some (.int .i64 v) ∧ V.cell? ⟨V2.heap.size, 1, none⟩ = some (.int .i64 e) ∧ V.cell? ⟨V2.heap.size, 2, none⟩ = some (.bool true) ∧ V.cell? ⟨V2.heap.size, 3, none⟩ = some (.int .i64 j) ∧ V.cell? ⟨V2.heap.size, 4, none⟩ = some (.slice ya yn yc)) X2 :=
                  ⟨by rw [cell_of_row _ _ _ _ _ _ g02]; rfl, by rw [cell_of_row _ _ _ _ _ _ k92]; rfl, by rw [cell_of_row _ _ _ _ _ _ k92]; rfl, by rw [cell_of_row _ _ _ _ _ _ k92]; rfl, by rw [cell_of_row _ _ _ _ _ _ k92]; rfl, by rw [cell_of_row _ _ _ _ _ _ k92]; rfl⟩
                refine hK.out _ _ hS2 (fun _ => ?_)
                clear hK K
                try simp only [Act.put, List.setIfInBounds_toArray, List.set_cons_zero, List.set_cons_succ]
                have kp2 := ((H8.out.below HBX.out)).grown hcs1 hgrow2
                have ke2 := (HK8.out.below HBX.out).grown hcs1 hgrow2 hownB
                have u2 := (HBs11.out.same fun o ho => heap_later ho HBX.out (Array.getElem?_eq_some_iff.1 ho).1).same fun o ho => (hgrow2.block _ (Array.getElem?_eq_some_iff.1 ho).1 (fun hh => hownB _ hh.symm rfl)).trans ho
                have hy1 := own_mono (own_ck HY.out (CK.below HBX.out)) (show base ≤ w9.heap.size by have := HSZ.out; have := hs9; omega)
                have hf2 : FOwn X2 base v' (st2.2 ++ [⟨v, e, true, j, whyOf p st2.2 ⟨v, e, true, j, []⟩⟩]) := FOwn.appended hcs1 hgrow2 (fun i hi => by
                  obtain ⟨e1, e2, e3, e4, yv, e5, e6⟩ := hc2 i hi
                  exact ⟨e1, e2, e3, e4, yv, e5, own_ck e6 hck1⟩) hy1 hown2
                have G02 := Lib.hid g02; have GV2 := Lib.hid gv2; have K92 := Lib.hid k92; have GX2 := Lib.hid gx2; have KP2 := Lib.hid kp2; have KE2 := Lib.hid ke2; have U2 := Lib.hid u2; have HF3 := Lib.hid hf2; have HS2 := Lib.hid hS2
                have zx2 : x < X2.heap.size := (Array.getElem?_eq_some_iff.1 gx2).1
                obtain ⟨g5, cp, rfl⟩ := Slice.own_succ hown2
                have xc := propC_cells HG2.out.len gx2
                have x18b := xc.2.2.2.1
                have x18f := xc.2.2.2.2.2 18
                clear g0x k9x gvx gxx g02 gv2 k92 gx2 kp2 ke2 u2 hy1 hf2 hS2 hlt2 hown2 hgrow2 hcs1 hck1 xc
                refine wpAnyH_ready (rs := [8]) (by kernel_rfl) (by simp) ?_
                refine AllReadyH.cons rfl (fun K hK => ?_) AllReadyH.nil
                go_simp
                refine hK.out _ _ HS2.out (fun _ => ?_)
                clear hK K
                refine wpAnyH_ready (rs := [9]) (by kernel_rfl) (by simp) ?_
                refine AllReadyH.cons rfl (fun K hK => ?_) AllReadyH.nil
                go_simp
                refine hK.out _ _ HS2.out (fun _ => ?_)
                clear hK K
                refine wpAnyH_ready (rs := [10]) (by kernel_rfl) (by simp) ?_
                refine AllReadyH.cons rfl (fun K hK => ?_) AllReadyH.nil
                go_simp
                have n1 : w.heap.size ≠ x := by omega
                have n2 : V2.heap.size ≠ x := by have := HSZ.out; omega
                have n3 : W.heap.size ≠ x := by have := HSZ.out; omega
                refine hK.out _ _ ⟨by rw [cell_of_row _ _ _ _ _ _ ((Below.heap_setCell _ _ _ _ n1).trans G02.out)]; rfl, by rw [cell_of_row _ _ _ _ _ _ ((Below.heap_setCell _ _ _ _ n2).trans K92.out)]; rfl, by rw [cell_of_row _ _ _ _ _ _ ((Below.heap_setCell _ _ _ _ n2).trans K92.out)]; rfl, by rw [cell_of_row _ _ _ _ _ _ ((Below.heap_setCell _ _ _ _ n2).trans K92.out)]; rfl, by rw [cell_of_row _ _ _ _ _ _ ((Below.heap_setCell _ _ _ _ n2).trans K92.out)]; rfl, by rw [cell_of_row _ _ _ _ _ _ ((Below.heap_setCell _ _ _ _ n2).trans K92.out)]; rfl⟩ (fun _ => ?_)
                clear hK K x18b x18f
                refine wpAnyH_done (by kernel_rfl) ?_ _
                have hst := Lib.hid (prop_facts (fv' := .slice (some ⟨g5, 0, none⟩) (st2.2.length + 1) cp) HG2.out.len GX2.out)
                have u3 := U2.out
                obtain ⟨uc, u3⟩ := u3
                have hfo : FOwn (hole x (hole w5.heap.size (X2.setCell ⟨x, 18, none⟩ (.slice (some ⟨g5, 0, none⟩) (st2.2.length + 1) cp)))) base (.slice (some ⟨g5, 0, none⟩) (st2.2.length + 1) cp) (st2.2 ++ [⟨v, e, true, j, whyOf p st2.2 ⟨v, e, true, j, []⟩⟩]) :=
                  ((HF3.out.hole u3 (by decide) (by decide)).hole (hole_block (by have := HSZ.out; omega) GX2.out) (by decide) (by decide)).ck (CK.hole_of (fun q c t f hq e => by
                    obtain ⟨h1, h2⟩ := hole_cells e
                    rw [hole_other h1]; exact (Below.heap_setCell _ _ _ _ hq).trans h2) (by simp [hole_size, World.setCell]))
                refine abs_post (fun V => V.heap[w.heap.size]? = some (.cells #[.pointer (some ⟨x, 0, none⟩)] 88 (0, 0)) ∧ V.heap[W.heap.size]? = some (.cells #[.int .i64 v] 3 (0, 0)) ∧ V.heap[V2.heap.size]? = some (.cells #[.int .i64 v, .int .i64 e, .bool true, .int .i64 j, .slice ya yn yc] 56 (0, 0)) ∧
                  V.heap[x]? = some (.cells (propC (.slice ba p.bounds.length bc) (.slice (some ⟨rb, ro, none⟩) p.rules.length rc) st2.1 (.slice (some ⟨g5, 0, none⟩) (st2.2.length + 1) cp) true).toArray 91 (0, 0)) ∧
                  FOwn (hole x (hole w5.heap.size V)) base (.slice (some ⟨g5, 0, none⟩) (st2.2.length + 1) cp) (st2.2 ++ [⟨v, e, true, j, whyOf p st2.2 ⟨v, e, true, j, []⟩⟩]) ∧ Kept (Two x w5.heap.size) base w6 V ∧ Keep w5.heap.size w6.heap.size V2 V)
                  ⟨(Below.heap_setCell _ _ _ _ n1).trans G02.out, (Below.heap_setCell _ _ _ _ n3).trans GV2.out, (Below.heap_setCell _ _ _ _ n2).trans K92.out, hst.out, hfo, KP2.out.setCell (.inl rfl) _, KE2.out.setCell (by show x ≠ w5.heap.size; have := HSZ.out; omega) _⟩ ?_
                have HNX2 := HNX; have HSN2 := HSN
                clear hst hfo u3 G02 GV2 K92 GX2 KP2 KE2 U2 HF3 HS2 n1 n2 n3 G0 GV K9 GX GF H8 HK8 hHeld HELD1 KX HBX HB11 HBs11 hc0 hc2 hownx hownB HY HPO O8 HBW8 zx z0 zv zz z1 z2 zl zx2 x18 G1 G2
                rintro X3 ⟨g0, gv, k9, gx, gf, h8, hk8⟩
                have m0 : X3.cell? ⟨w.heap.size, 0, none⟩ = some (.pointer (some ⟨x, 0, none⟩)) := by rw [cell_of_row _ _ _ _ _ _ g0]; rfl
                have mv : X3.cell? ⟨W.heap.size, 0, none⟩ = some (.int .i64 v) := by rw [cell_of_row _ _ _ _ _ _ gv]; rfl
                have m2 : X3.cell? ⟨V2.heap.size, 2, none⟩ = some (.bool true) := by rw [cell_of_row _ _ _ _ _ _ k9]; rfl
                have zx : x < X3.heap.size := (Array.getElem?_eq_some_iff.1 gx).1
                have z0 : w.heap.size < X3.heap.size := (Array.getElem?_eq_some_iff.1 g0).1
                have zv : W.heap.size < X3.heap.size := (Array.getElem?_eq_some_iff.1 gv).1
                have zz : V2.heap.size < X3.heap.size := (Array.getElem?_eq_some_iff.1 k9).1
                have HPR := Lib.hid (prop_row HG2.out.len gx)
                have GX := Lib.hid gx; have GF := Lib.hid gf; have H8 := Lib.hid h8; have HK8 := Lib.hid hk8
                clear g0 gv k9 gx gf h8 hk8
                gi_wp2_with fail
                refine wpIn_region_qbt 12 (by kernel_rfl) (by kernel_rfl) (by rintro ⟨a, w, h⟩; exact h) ?_
                simp only [List.take_succ_cons, List.take_zero, List.drop_succ_cons, List.drop_zero]
                repeat (first | (go_big_quiet_want; refine quiet_loadB _ rfl rfl (rowQ HPR.out zx) ?_; simp only [Act.put, List.setIfInBounds_toArray, List.set_cons_zero, List.set_cons_succ]; go_big_quiet_on) | go_big_quiet_step ((with_reducible exact Gives.quiet (with_any _ v e _ _ hb8 hv8 (by omega) HU64.out))))
                refine wpQuiet_nil ?_
                intro w10 hb10
                have gx := heap_later GX.out hb10 zx
                have hps := prop_store (now' := withB st2.1 v e true) HG2.out.len (by rw [withB_length]; exact hb8) gx
                have hfin : elemPost w5.heap.size w6.heap.size (fun pre V => (∃ lv2, V.heap[x]? = some (.cells (propC (.slice ba p.bounds.length bc) (.slice (some ⟨rb, ro, none⟩) p.rules.length rc) (stE p true j v st' pre).1 lv2 true).toArray 91 (0, 0)) ∧ FOwn (hole x (hole w5.heap.size V)) base lv2 (stE p true j v st' pre).2) ∧ Kept (Two x w5.heap.size) base w6 V) (fun _ _ _ => False) (pre ++ [e]) V2 .normal { tmps := #[], defers := [] } (w10.setCells x 2 (bCells (withB st2.1 v e true))) := by
                  refine ⟨Keep.setCells (by have := HSZ.out; omega) _ _ _ (HK8.out.below hb10), ⟨(.slice (some ⟨g5, 0, none⟩) (st2.2.length + 1) cp), ?_, ?_⟩, (H8.out.below hb10).setCells (.inl rfl) _ _ _⟩
                  · rw [HSN.out, HNX.out]; exact hps.2.2
                  · rw [HSN.out, HNX.out]; exact GF.out.ck (CK.prop hb10)
                have HPS := Lib.hid hps; have HFIN := Lib.hid hfin
                clear gx hps hfin hb10
                go_wp2_with (refine wpList_store_mid rfl 85 _ _ rfl _ _ _ rfl rfl HPS.out.1 HPS.out.2.1 (all_oneCell_toArray (bCells_one _)) ?_)
                exact HFIN.out
              · go_simp
                have hbx0 := Below.new1 W11 (.cells #[.int .i64 v, .int .i64 e, .bool true, .int .i64 j, .slice ya yn yc] 56)
                have g0b := heap_later G0.out hbx0 z0
                have k9b := heap_later K9.out hbx0 zz
                have hHeld2 : (fun V : World => V.cell? ⟨w.heap.size, 0, none⟩ = some (.pointer (some ⟨x, 0, none⟩)) ∧ V.cell? ⟨V2.heap.size, 0, none⟩ = some (.int .i64 v) ∧ V.cell? ⟨V2.heap.size, 1, none⟩ = some (.int .i64 e) ∧ V.cell? ⟨V2.heap.size, 2, none⟩ = some (.bool true) ∧ V.cell? ⟨V2.heap.size, 3, none⟩ = some (.int .i64 j) ∧ V.cell? ⟨V2.heap.size, 4, none⟩ = some (.slice ya yn yc)) (W11.alloc (.cells #[.int .i64 v, .int .i64 e, .bool true, .int .i64 j, .slice ya yn yc] 56)) :=
                  ⟨by rw [cell_of_row _ _ _ _ _ _ g0b]; rfl, by rw [cell_of_row _ _ _ _ _ _ k9b]; rfl, by rw [cell_of_row _ _ _ _ _ _ k9b]; rfl, by rw [cell_of_row _ _ _ _ _ _ k9b]; rfl, by rw [cell_of_row _ _ _ _ _ _ k9b]; rfl, by rw [cell_of_row _ _ _ _ _ _ k9b]; rfl⟩
                refine hK.out _ _ hHeld2 (fun _ => ?_)
                clear hK K hbx0 g0b k9b hHeld2
                try simp only [Act.put, List.setIfInBounds_toArray, List.set_cons_zero, List.set_cons_succ]
                refine abs_anyH (fun V => Below W11.heap.size W11 V ∧ V.heap[W11.heap.size]? = some (.cells #[.int .i64 v, .int .i64 e, .bool true, .int .i64 j, .slice ya yn yc] 56 (0, 0))) ⟨Below.new1 _ _, heap_new0 _ _⟩ ?_
                rintro X1 ⟨hbx, kx⟩
                have g0x := heap_later G0.out hbx z0
                have k9x := heap_later K9.out hbx zz
                have HELD1 := Lib.hid (show (fun V : World => V.cell? ⟨w.heap.size, 0, none⟩ = some (.pointer (some ⟨x, 0, none⟩)) ∧ V.cell? ⟨V2.heap.size, 0, none⟩ = some (.int .i64 v) ∧ V.cell? ⟨V2.heap.size, 1, none⟩ = some (.int .i64 e) ∧ V.cell? ⟨V2.heap.size, 2, none⟩ = some (.bool true) ∧ V.cell? ⟨V2.heap.size, 3, none⟩ = some (.int .i64 j) ∧ V.cell? ⟨V2.heap.size, 4, none⟩ = some (.slice ya yn yc)) X1 from ⟨by rw [cell_of_row _ _ _ _ _ _ g0x]; rfl, by rw [cell_of_row _ _ _ _ _ _ k9x]; rfl, by rw [cell_of_row _ _ _ _ _ _ k9x]; rfl, by rw [cell_of_row _ _ _ _ _ _ k9x]; rfl, by rw [cell_of_row _ _ _ _ _ _ k9x]; rfl, by rw [cell_of_row _ _ _ _ _ _ k9x]; rfl⟩)
                have KX := Lib.hid kx; have HBX := Lib.hid hbx
                clear g0x k9x kx
                have x18b : X1.cell? ⟨x, 18, none⟩ = some lv2 := (propC_cells HG2.out.len (heap_later GX.out hbx zx)).2.2.2.1
                refine wpAnyH_ready (rs := [4]) (by kernel_rfl) (by simp) ?_
                refine AllReadyH.cons (o := { dst := some 84, op := Op.load 51 (Operand.tmp 83), type := 51, pos := "sets.go:288", after := #[{ on := 3, ground := Ground.data }], guard := none }) rfl (fun K hK => ?_) AllReadyH.nil
                go_simp
                refine hK.out _ _ HELD1.out (fun _ => ?_)
                clear hK K x18b
                try simp only [Act.put, List.setIfInBounds_toArray, List.set_cons_zero, List.set_cons_succ]
                refine wpAnyH_ready (rs := [7]) (by kernel_rfl) (by simp) ?_
                refine AllReadyH.cons (o := { dst := some 87, op := Op.call { callee := Callee.builtin Builtin.append, args := #[Operand.tmp 84, Operand.tmp 86], argTypes := #[51, 51] }, type := 51, pos := "sets.go:288", after := #[{ on := 4, ground := Ground.data }, { on := 6, ground := Ground.data }], guard := none }) rfl (fun K hK => ?_) AllReadyH.nil
                rw [if_pos (by rfl)]
                obtain ⟨i0, hin, hz0, hz1, hz2⟩ := info_parts Tryz.info56
                have hck1 := (((CK.fill x _).trans (CK.fill w5.heap.size W11))).trans (CK.below HBX.out)
                have hcs1 := own_ck hc0 hck1
                have hfew := HG2.out.few
                refine wp_append_own X1 _ _ 51 rfl base 56 i0 _ 5 56 Tryz.underlying51 hin hz0 hz1 hz2 rfl (by decide) lv2 st2.2.length cs rfl hcs1 ⟨W11.heap.size, 0, none⟩ 1 1 [.int .i64 v, .int .i64 e, .bool true, .int .i64 j, .slice ya yn yc] rfl rfl ?_ ?_ (by unfold maxLen; omega) (by omega) (by have := hbx.size; have := HSZ.out; have := O8.out; omega) ?_
                · intro q u hq
                  rw [Addr.add_lit, Nat.zero_add, cell_of_row _ _ _ _ _ _ KX.out, List.getElem?_toArray]; exact hq
                · intro u hu
                  simp only [List.mem_cons, List.not_mem_nil, or_false] at hu
                  rcases hu with rfl | rfl | rfl | rfl | rfl <;> rfl
                intro v' X2 hown2 hgrow2 _
                have hlt2 : ∀ g, lv2.ownBlock = some g → g < V2.heap.size := fun g hg => by
                  obtain ⟨cs0, hc0', _⟩ := HF2.out
                  have := (hc0'.lt g hg).2
                  rwa [hole_size, hole_size] at this
                have g0x := heap_later G0.out HBX.out z0
                have k9x := heap_later K9.out HBX.out zz
                have gvx := heap_later GV.out HBX.out zv
                have gxx := heap_later GX.out HBX.out zx
                have sz1 := HBX.out.size
                have g02 := (hgrow2.block w.heap.size (by omega) (fun hh => own_apart hcs1 g0x (by decide) _ hh.symm rfl)).trans g0x
                have gv2 := (hgrow2.block W.heap.size (by omega) (fun hh => own_apart hcs1 gvx (by decide) _ hh.symm rfl)).trans gvx
                have k92 := (hgrow2.block V2.heap.size (by omega) (fun hh => by have := hlt2 _ hh.symm; omega)).trans k9x
                have gx2 := (hgrow2.block x (by omega) (fun hh => hownx _ hh.symm rfl)).trans gxx
                have hS2 : (fun V : World => V.cell? ⟨w.heap.size, 0, none⟩ = some (.pointer (some ⟨x, 0, none⟩)) ∧ V.cell? ⟨V2.heap.size, 0, none⟩ = some (.int .i64 v) ∧ V.cell? ⟨V2.heap.size, 1, none⟩ = some (.int .i64 e) ∧ V.cell? ⟨V2.heap.size, 2, none⟩ = some (.bool true) ∧ V.cell? ⟨V2.heap.size, 3, none⟩ = some (.int .i64 j) ∧ V.cell? ⟨V2.heap.size, 4, none⟩ = some (.slice ya yn yc)) X2 :=
                  ⟨by rw [cell_of_row _ _ _ _ _ _ g02]; rfl, by rw [cell_of_row _ _ _ _ _ _ k92]; rfl, by rw [cell_of_row _ _ _ _ _ _ k92]; rfl, by rw [cell_of_row _ _ _ _ _ _ k92]; rfl, by rw [cell_of_row _ _ _ _ _ _ k92]; rfl, by rw [cell_of_row _ _ _ _ _ _ k92]; rfl⟩
                refine hK.out _ _ hS2 (fun _ => ?_)
                clear hK K
                try simp only [Act.put, List.setIfInBounds_toArray, List.set_cons_zero, List.set_cons_succ]
                have kp2 := ((H8.out.below HBX.out)).grown hcs1 hgrow2
                have ke2 := (HK8.out.below HBX.out).grown hcs1 hgrow2 hownB
                have u2 := (HBs11.out.same fun o ho => heap_later ho HBX.out (Array.getElem?_eq_some_iff.1 ho).1).same fun o ho => (hgrow2.block _ (Array.getElem?_eq_some_iff.1 ho).1 (fun hh => hownB _ hh.symm rfl)).trans ho
                have hy1 := own_mono (own_ck HY.out (CK.below HBX.out)) (show base ≤ w9.heap.size by have := HSZ.out; have := hs9; omega)
                have hf2 : FOwn X2 base v' (st2.2 ++ [⟨v, e, true, j, whyOf p st2.2 ⟨v, e, true, j, []⟩⟩]) := FOwn.appended hcs1 hgrow2 (fun i hi => by
                  obtain ⟨e1, e2, e3, e4, yv, e5, e6⟩ := hc2 i hi
                  exact ⟨e1, e2, e3, e4, yv, e5, own_ck e6 hck1⟩) hy1 hown2
                have G02 := Lib.hid g02; have GV2 := Lib.hid gv2; have K92 := Lib.hid k92; have GX2 := Lib.hid gx2; have KP2 := Lib.hid kp2; have KE2 := Lib.hid ke2; have U2 := Lib.hid u2; have HF3 := Lib.hid hf2; have HS2 := Lib.hid hS2
                have zx2 : x < X2.heap.size := (Array.getElem?_eq_some_iff.1 gx2).1
                obtain ⟨g5, cp, rfl⟩ := Slice.own_succ hown2
                have xc := propC_cells HG2.out.len gx2
                have x18b := xc.2.2.2.1
                have x18f := xc.2.2.2.2.2 18
                clear g0x k9x gvx gxx g02 gv2 k92 gx2 kp2 ke2 u2 hy1 hf2 hS2 hlt2 hown2 hgrow2 hcs1 hck1 xc
                refine wpAnyH_ready (rs := [8]) (by kernel_rfl) (by simp) ?_
                refine AllReadyH.cons rfl (fun K hK => ?_) AllReadyH.nil
                go_simp
                refine hK.out _ _ HS2.out (fun _ => ?_)
                clear hK K
                refine wpAnyH_ready (rs := [9]) (by kernel_rfl) (by simp) ?_
                refine AllReadyH.cons rfl (fun K hK => ?_) AllReadyH.nil
                go_simp
                refine hK.out _ _ HS2.out (fun _ => ?_)
                clear hK K
                refine wpAnyH_ready (rs := [10]) (by kernel_rfl) (by simp) ?_
                refine AllReadyH.cons rfl (fun K hK => ?_) AllReadyH.nil
                go_simp
                have n1 : w.heap.size ≠ x := by omega
                have n2 : V2.heap.size ≠ x := by have := HSZ.out; omega
                have n3 : W.heap.size ≠ x := by have := HSZ.out; omega
                refine hK.out _ _ ⟨by rw [cell_of_row _ _ _ _ _ _ ((Below.heap_setCell _ _ _ _ n1).trans G02.out)]; rfl, by rw [cell_of_row _ _ _ _ _ _ ((Below.heap_setCell _ _ _ _ n2).trans K92.out)]; rfl, by rw [cell_of_row _ _ _ _ _ _ ((Below.heap_setCell _ _ _ _ n2).trans K92.out)]; rfl, by rw [cell_of_row _ _ _ _ _ _ ((Below.heap_setCell _ _ _ _ n2).trans K92.out)]; rfl, by rw [cell_of_row _ _ _ _ _ _ ((Below.heap_setCell _ _ _ _ n2).trans K92.out)]; rfl, by rw [cell_of_row _ _ _ _ _ _ ((Below.heap_setCell _ _ _ _ n2).trans K92.out)]; rfl⟩ (fun _ => ?_)
                clear hK K x18b x18f
                refine wpAnyH_done (by kernel_rfl) ?_ _
                have hst := Lib.hid (prop_facts (fv' := .slice (some ⟨g5, 0, none⟩) (st2.2.length + 1) cp) HG2.out.len GX2.out)
                have u3 := U2.out
                obtain ⟨uc, u3⟩ := u3
                have hfo : FOwn (hole x (hole w5.heap.size (X2.setCell ⟨x, 18, none⟩ (.slice (some ⟨g5, 0, none⟩) (st2.2.length + 1) cp)))) base (.slice (some ⟨g5, 0, none⟩) (st2.2.length + 1) cp) (st2.2 ++ [⟨v, e, true, j, whyOf p st2.2 ⟨v, e, true, j, []⟩⟩]) :=
                  ((HF3.out.hole u3 (by decide) (by decide)).hole (hole_block (by have := HSZ.out; omega) GX2.out) (by decide) (by decide)).ck (CK.hole_of (fun q c t f hq e => by
                    obtain ⟨h1, h2⟩ := hole_cells e
                    rw [hole_other h1]; exact (Below.heap_setCell _ _ _ _ hq).trans h2) (by simp [hole_size, World.setCell]))
                refine abs_post (fun V => V.heap[w.heap.size]? = some (.cells #[.pointer (some ⟨x, 0, none⟩)] 88 (0, 0)) ∧ V.heap[W.heap.size]? = some (.cells #[.int .i64 v] 3 (0, 0)) ∧ V.heap[V2.heap.size]? = some (.cells #[.int .i64 v, .int .i64 e, .bool true, .int .i64 j, .slice ya yn yc] 56 (0, 0)) ∧
                  V.heap[x]? = some (.cells (propC (.slice ba p.bounds.length bc) (.slice (some ⟨rb, ro, none⟩) p.rules.length rc) st2.1 (.slice (some ⟨g5, 0, none⟩) (st2.2.length + 1) cp) true).toArray 91 (0, 0)) ∧
                  FOwn (hole x (hole w5.heap.size V)) base (.slice (some ⟨g5, 0, none⟩) (st2.2.length + 1) cp) (st2.2 ++ [⟨v, e, true, j, whyOf p st2.2 ⟨v, e, true, j, []⟩⟩]) ∧ Kept (Two x w5.heap.size) base w6 V ∧ Keep w5.heap.size w6.heap.size V2 V)
                  ⟨(Below.heap_setCell _ _ _ _ n1).trans G02.out, (Below.heap_setCell _ _ _ _ n3).trans GV2.out, (Below.heap_setCell _ _ _ _ n2).trans K92.out, hst.out, hfo, KP2.out.setCell (.inl rfl) _, KE2.out.setCell (by show x ≠ w5.heap.size; have := HSZ.out; omega) _⟩ ?_
                have HNX2 := HNX; have HSN2 := HSN
                clear hst hfo u3 G02 GV2 K92 GX2 KP2 KE2 U2 HF3 HS2 n1 n2 n3 G0 GV K9 GX GF H8 HK8 hHeld HELD1 KX HBX HB11 HBs11 hc0 hc2 hownx hownB HY HPO O8 HBW8 zx z0 zv zz z1 z2 zl zx2 x18 G1 G2
                rintro X3 ⟨g0, gv, k9, gx, gf, h8, hk8⟩
                have m0 : X3.cell? ⟨w.heap.size, 0, none⟩ = some (.pointer (some ⟨x, 0, none⟩)) := by rw [cell_of_row _ _ _ _ _ _ g0]; rfl
                have mv : X3.cell? ⟨W.heap.size, 0, none⟩ = some (.int .i64 v) := by rw [cell_of_row _ _ _ _ _ _ gv]; rfl
                have m2 : X3.cell? ⟨V2.heap.size, 2, none⟩ = some (.bool true) := by rw [cell_of_row _ _ _ _ _ _ k9]; rfl
                have zx : x < X3.heap.size := (Array.getElem?_eq_some_iff.1 gx).1
                have z0 : w.heap.size < X3.heap.size := (Array.getElem?_eq_some_iff.1 g0).1
                have zv : W.heap.size < X3.heap.size := (Array.getElem?_eq_some_iff.1 gv).1
                have zz : V2.heap.size < X3.heap.size := (Array.getElem?_eq_some_iff.1 k9).1
                have HPR := Lib.hid (prop_row HG2.out.len gx)
                have GX := Lib.hid gx; have GF := Lib.hid gf; have H8 := Lib.hid h8; have HK8 := Lib.hid hk8
                clear g0 gv k9 gx gf h8 hk8
                gi_wp2_with fail
                refine wpIn_region_qbt 12 (by kernel_rfl) (by kernel_rfl) (by rintro ⟨a, w, h⟩; exact h) ?_
                simp only [List.take_succ_cons, List.take_zero, List.drop_succ_cons, List.drop_zero]
                repeat (first | (go_big_quiet_want; refine quiet_loadB _ rfl rfl (rowQ HPR.out zx) ?_; simp only [Act.put, List.setIfInBounds_toArray, List.set_cons_zero, List.set_cons_succ]; go_big_quiet_on) | go_big_quiet_step ((with_reducible exact Gives.quiet (with_any _ v e _ _ hb8 hv8 (by omega) HU64.out))))
                refine wpQuiet_nil ?_
                intro w10 hb10
                have gx := heap_later GX.out hb10 zx
                have hps := prop_store (now' := withB st2.1 v e true) HG2.out.len (by rw [withB_length]; exact hb8) gx
                have hfin : elemPost w5.heap.size w6.heap.size (fun pre V => (∃ lv2, V.heap[x]? = some (.cells (propC (.slice ba p.bounds.length bc) (.slice (some ⟨rb, ro, none⟩) p.rules.length rc) (stE p true j v st' pre).1 lv2 true).toArray 91 (0, 0)) ∧ FOwn (hole x (hole w5.heap.size V)) base lv2 (stE p true j v st' pre).2) ∧ Kept (Two x w5.heap.size) base w6 V) (fun _ _ _ => False) (pre ++ [e]) V2 .normal { tmps := #[], defers := [] } (w10.setCells x 2 (bCells (withB st2.1 v e true))) := by
                  refine ⟨Keep.setCells (by have := HSZ.out; omega) _ _ _ (HK8.out.below hb10), ⟨(.slice (some ⟨g5, 0, none⟩) (st2.2.length + 1) cp), ?_, ?_⟩, (H8.out.below hb10).setCells (.inl rfl) _ _ _⟩
                  · rw [HSN.out, HNX.out]; exact hps.2.2
                  · rw [HSN.out, HNX.out]; exact GF.out.ck (CK.prop hb10)
                have HPS := Lib.hid hps; have HFIN := Lib.hid hfin
                clear gx hps hfin hb10
                go_wp2_with (refine wpList_store_mid rfl 85 _ _ rfl _ _ _ rfl rfl HPS.out.1 HPS.out.2.1 (all_oneCell_toArray (bCells_one _)) ?_)
                exact HFIN.out
          case true =>
            refine wpIn_region_qb (by kernel_rfl) (by kernel_rfl) (by rintro ⟨a, w, h⟩; exact h) ?_
            repeat (first | (go_big_quiet_want; refine quiet_loadB _ rfl rfl (rowQ HPR.out zx) ?_; simp only [Act.put, List.setIfInBounds_toArray, List.set_cons_zero, List.set_cons_succ]; go_big_quiet_on) | go_big_quiet_step ((with_reducible exact Gives.quiet (HP.out _ _))))
            refine wpQuiet_nil ?_
            intro w9 hb9
            have hb29 := HB28.out.trans (hb9.mono HB28.out.size)
            have k9 := heap_later K9.out hb9 zz
            have q2 : w9.cell? ⟨V2.heap.size, 2, none⟩ = some (.bool true) := by rw [cell_of_row _ _ _ _ _ _ k9]; rfl
            have qf : w9.frozen? ⟨V2.heap.size, 2, none⟩ = false := by simp [World.frozen?, k9]
            clear G0 G1 G2 GV GX GF H8 HK8 O8 HBW8 HPR HP b0 d0 d1 d2 d3 f0 f1 f2 f3 f4 zx z0 zv zz z1 z2 zl
            clear K9
            have K9 := Lib.hid k9; have HB29 := Lib.hid hb29
            clear k9 hb9 hb29 HB28
            gi_wp2_with fail
            refine abs_in (fun V => V.heap[V2.heap.size]? = some (.cells #[.int .i64 v, .int .i64 e, .bool false, .int .i64 j, .slice none 0 0] 56 (0, 0)) ∧ Below V2.heap.size V2 V) ⟨by simp only [World.setCell, Array.getElem?_modify, if_true, K9.out, Option.map_some]; rfl, HB29.out.setCell (Nat.le_refl _) _⟩ ?_
            clear q2 qf K9 HB29
            rintro V8b ⟨k8, hb8⟩
            have K9 := Lib.hid k8
            clear k8
            have g0 := heap_later P0.out hb8 (by have := HSZ.out; omega)
            have g1 := heap_later P1.out hb8 (by have := HSZ.out; omega)
            have g2 := heap_later P2.out hb8 (by have := HSZ.out; omega)
            have gv := heap_later PV.out hb8 (by have := HSZ.out; omega)
            have gx := heap_later HX2.out hb8 (by have := HSZ.out; omega)
            have hf8 : FOwn (hole x (hole w5.heap.size V8b)) base lv2 st2.2 := HF2.out.ck (CK.below hb8).hole.hole
            have h78 : Kept (Two x w5.heap.size) base w6 V8b := H7.out.below hb8
            have hk8 : Keep w5.heap.size w6.heap.size V2 V8b := (Keep.refl _ _ _).below hb8
            have G0 := Lib.hid g0; have G1 := Lib.hid g1; have G2 := Lib.hid g2; have GV := Lib.hid gv; have GX := Lib.hid gx; have GF := Lib.hid hf8; have H8 := Lib.hid h78; have HK8 := Lib.hid hk8
            have O8 := Lib.hid (show w6.heap.size ≤ V8b.heap.size from H8.out.size)
            have HBW8 := Lib.hid (show Below B w V8b from (GR6.out.through H8.out (by have := HSZ.out; omega)).toBelow hBb (by omega) (fun q hq h => by unfold One at h; omega))
            have zz : V2.heap.size < V8b.heap.size := (Array.getElem?_eq_some_iff.1 K9.out).1
            have zl : w5.heap.size < V8b.heap.size := by omega
            have zx : x < V8b.heap.size := by have := HSZ.out; omega
            have z0 : w.heap.size < V8b.heap.size := by have := HSZ.out; omega
            have z1 : w.heap.size + 1 < V8b.heap.size := by have := HSZ.out; omega
            have z2 : w.heap.size + 2 < V8b.heap.size := by have := HSZ.out; omega
            have zv : W.heap.size < V8b.heap.size := by have := HSZ.out; omega
            clear g0 g1 g2 gv gx hf8 h78 hk8
            have HB28 := Lib.hid hb8; clear hb8
            have hpr := prop_row HG2.out.len GX.out
            have HPR := Lib.hid hpr
            clear hpr
            have b0 : V8b.cell? ⟨w.heap.size, 0, none⟩ = some (.pointer (some ⟨x, 0, none⟩)) := by rw [cell_of_row _ _ _ _ _ _ G0.out]; rfl
            have d0 : V8b.cell? ⟨w.heap.size + 2, 0, none⟩ = some (.int .i64 (rget p.rules j).kind) := by rw [cell_of_row _ _ _ _ _ _ G2.out]; rfl
            have d1 : V8b.cell? ⟨w.heap.size + 2, 1, none⟩ = some (.slice (some ⟨vb, vo, none⟩) (rget p.rules j).vars.length vc) := by rw [cell_of_row _ _ _ _ _ _ G2.out]; rfl
            have d2 : V8b.cell? ⟨w.heap.size + 2, 2, none⟩ = some (.int .i64 (rget p.rules j).low) := by rw [cell_of_row _ _ _ _ _ _ G2.out]; rfl
            have d3 : V8b.cell? ⟨w.heap.size + 2, 3, none⟩ = some (.int .i64 (rget p.rules j).high) := by rw [cell_of_row _ _ _ _ _ _ G2.out]; rfl
            have f0 : V8b.cell? ⟨V2.heap.size, 0, none⟩ = some (.int .i64 v) := by rw [cell_of_row _ _ _ _ _ _ K9.out]; rfl
            have f1 : V8b.cell? ⟨V2.heap.size, 1, none⟩ = some (.int .i64 e) := by rw [cell_of_row _ _ _ _ _ _ K9.out]; rfl
            have f2 : V8b.cell? ⟨V2.heap.size, 2, none⟩ = some (.bool false) := by rw [cell_of_row _ _ _ _ _ _ K9.out]; rfl
            have f3 : V8b.cell? ⟨V2.heap.size, 3, none⟩ = some (.int .i64 j) := by rw [cell_of_row _ _ _ _ _ _ K9.out]; rfl
            have f4 : V8b.cell? ⟨V2.heap.size, 4, none⟩ = some (.slice none 0 0) := by rw [cell_of_row _ _ _ _ _ _ K9.out]; rfl
            have hp : ∀ d os, Gives Tryz.prog 99 #[.agg (bCells st2.1).toArray, .agg #[.int .i64 (rget p.rules j).kind, .slice (some ⟨vb, vo, none⟩) (rget p.rules j).vars.length vc, .int .i64 (rget p.rules j).low, .int .i64 (rget p.rules j).high], .agg #[.int .i64 v, .int .i64 e, .bool false, .int .i64 j, .slice none 0 0]] (Go.Sort.grow (redrawn V8b d) os) (.bool (!possB (withB st2.1 v e (!false)) (rget p.rules j))) := fun d os => by
              have hbg : Below B w (Go.Sort.grow (redrawn V8b d) os) := HBW8.out.trans ((below_regrown V8b d os).mono (by omega))
              have hsg := (below_regrown V8b d os).size
              exact follows_any _ HG2.out.len HG2.out.s12 _ HFIT.out _ v e false j none 0 0 hv8 he _ (HVV.out.below hbg (Nat.le_refl _)) (by omega) (HT.out.below hbg hB0) (by omega)
            have HP := Lib.hid hp; clear hp
            cases hT2 : possB (withB st2.1 v e (!false)) (rget p.rules j) <;> rw [hT2] at HP
            case false =>
              refine wpIn_region_qb (by kernel_rfl) (by kernel_rfl) (by rintro ⟨a, w, h⟩; exact h) ?_
              repeat (first | (go_big_quiet_want; refine quiet_loadB _ rfl rfl (rowQ HPR.out zx) ?_; simp only [Act.put, List.setIfInBounds_toArray, List.set_cons_zero, List.set_cons_succ]; go_big_quiet_on) | go_big_quiet_step ((with_reducible exact Gives.quiet (HP.out _ _))))
              refine wpQuiet_nil ?_
              intro w12 hb9
              have hb29 := HB28.out.trans (hb9.mono HB28.out.size)
              have k9 := heap_later K9.out hb9 zz
              clear G0 G1 G2 GV GX GF H8 HK8 O8 HBW8 HPR HP b0 d0 d1 d2 d3 f0 f1 f2 f3 f4 zx z0 zv zz z1 z2 zl
              clear K9
              have K9 := Lib.hid k9
              have g0 := heap_later P0.out hb29 (by have := HSZ.out; omega)
              have g1 := heap_later P1.out hb29 (by have := HSZ.out; omega)
              have g2 := heap_later P2.out hb29 (by have := HSZ.out; omega)
              have gv := heap_later PV.out hb29 (by have := HSZ.out; omega)
              have gx := heap_later HX2.out hb29 (by have := HSZ.out; omega)
              have hf8 : FOwn (hole x (hole w5.heap.size w12)) base lv2 st2.2 := HF2.out.ck (CK.below hb29).hole.hole
              have h78 : Kept (Two x w5.heap.size) base w6 w12 := H7.out.below hb29
              have hk8 : Keep w5.heap.size w6.heap.size V2 w12 := (Keep.refl _ _ _).below hb29
              have G0 := Lib.hid g0; have G1 := Lib.hid g1; have G2 := Lib.hid g2; have GV := Lib.hid gv; have GX := Lib.hid gx; have GF := Lib.hid hf8; have H8 := Lib.hid h78; have HK8 := Lib.hid hk8
              have O8 := Lib.hid (show w6.heap.size ≤ w12.heap.size from H8.out.size)
              have HBW8 := Lib.hid (show Below B w w12 from (GR6.out.through H8.out (by have := HSZ.out; omega)).toBelow hBb (by omega) (fun q hq h => by unfold One at h; omega))
              have zz : V2.heap.size < w12.heap.size := (Array.getElem?_eq_some_iff.1 K9.out).1
              have zl : w5.heap.size < w12.heap.size := by omega
              have zx : x < w12.heap.size := by have := HSZ.out; omega
              have z0 : w.heap.size < w12.heap.size := by have := HSZ.out; omega
              have z1 : w.heap.size + 1 < w12.heap.size := by have := HSZ.out; omega
              have z2 : w.heap.size + 2 < w12.heap.size := by have := HSZ.out; omega
              have zv : W.heap.size < w12.heap.size := by have := HSZ.out; omega
              clear g0 g1 g2 gv gx hf8 h78 hk8
              have HNX := Lib.hid (show stepE p rs j v st2 e = (withB st2.1 v e false, if rs then st2.2 ++ [⟨v, e, false, j, whyOf p st2.2 ⟨v, e, false, j, []⟩⟩] else st2.2) by unfold stepE tryE; rw [show possB (withB st2.1 v e false) (rget p.rules j) = true from hT1, show possB (withB st2.1 v e true) (rget p.rules j) = false from hT2]; rfl)
              have HB29 := Lib.hid hb29
              clear k9 hb9 hb29 HB28
              have m0 : w12.cell? ⟨w.heap.size, 0, none⟩ = some (.pointer (some ⟨x, 0, none⟩)) := by rw [cell_of_row _ _ _ _ _ _ G0.out]; rfl
              have mv : w12.cell? ⟨W.heap.size, 0, none⟩ = some (.int .i64 v) := by rw [cell_of_row _ _ _ _ _ _ GV.out]; rfl
              have m2 : w12.cell? ⟨V2.heap.size, 2, none⟩ = some (.bool false) := by rw [cell_of_row _ _ _ _ _ _ K9.out]; rfl
              have mrs : w12.cell? ⟨x, 19, none⟩ = some (.bool rs) := (propC_cells HG2.out.len GX.out).2.2.2.2.1
              have zx : x < w12.heap.size := by have := HSZ.out; have := O8.out; omega
              have z0 : w.heap.size < w12.heap.size := by have := HSZ.out; have := O8.out; omega
              have zv : W.heap.size < w12.heap.size := by have := HSZ.out; have := O8.out; omega
              have zz : V2.heap.size < w12.heap.size := (Array.getElem?_eq_some_iff.1 K9.out).1
              have hpr := prop_row HG2.out.len GX.out
              have HPR := Lib.hid hpr
              clear hpr
              have hb8 := HG2.out.len
              have hu64 := HG2.out.s12.u64
              have HU64 := Lib.hid hu64
              clear hu64
              cases rs
              case false =>
                gi_wp2_with fail
                refine wpIn_region_qbt 12 (by kernel_rfl) (by kernel_rfl) (by rintro ⟨a, w, h⟩; exact h) ?_
                simp only [List.take_succ_cons, List.take_zero, List.drop_succ_cons, List.drop_zero]
                repeat (first | (go_big_quiet_want; refine quiet_loadB _ rfl rfl (rowQ HPR.out zx) ?_; simp only [Act.put, List.setIfInBounds_toArray, List.set_cons_zero, List.set_cons_succ]; go_big_quiet_on) | go_big_quiet_step ((with_reducible exact Gives.quiet (with_any _ v e _ _ hb8 hv8 (by omega) HU64.out))))
                refine wpQuiet_nil ?_
                intro w10 hb10
                have gx := heap_later GX.out hb10 zx
                have hps := prop_store (now' := withB st2.1 v e false) HG2.out.len (by rw [withB_length]; exact hb8) gx
                have hfin : elemPost w5.heap.size w6.heap.size (fun pre V => (∃ lv2, V.heap[x]? = some (.cells (propC (.slice ba p.bounds.length bc) (.slice (some ⟨rb, ro, none⟩) p.rules.length rc) (stE p false j v st' pre).1 lv2 false).toArray 91 (0, 0)) ∧ FOwn (hole x (hole w5.heap.size V)) base lv2 (stE p false j v st' pre).2) ∧ Kept (Two x w5.heap.size) base w6 V) (fun _ _ _ => False) (pre ++ [e]) V2 .normal { tmps := #[], defers := [] } (w10.setCells x 2 (bCells (withB st2.1 v e false))) := by
                  refine ⟨Keep.setCells (by have := HSZ.out; omega) _ _ _ (HK8.out.below hb10), ⟨lv2, ?_, ?_⟩, (H8.out.below hb10).setCells (.inl rfl) _ _ _⟩
                  · rw [HSN.out, HNX.out]; exact hps.2.2
                  · rw [HSN.out, HNX.out]; exact GF.out.ck (CK.prop hb10)
                have HPS := Lib.hid hps; have HFIN := Lib.hid hfin
                clear gx hps hfin hb10
                go_wp2_with (refine wpList_store_mid rfl 85 _ _ rfl _ _ _ rfl rfl HPS.out.1 HPS.out.2.1 (all_oneCell_toArray (bCells_one _)) ?_)
                exact HFIN.out
              case true =>
                have n0 : w12.cell? ⟨V2.heap.size, 0, none⟩ = some (.int .i64 v) := by rw [cell_of_row _ _ _ _ _ _ K9.out]; rfl
                have n1 : w12.cell? ⟨V2.heap.size, 1, none⟩ = some (.int .i64 e) := by rw [cell_of_row _ _ _ _ _ _ K9.out]; rfl
                have n3 : w12.cell? ⟨V2.heap.size, 3, none⟩ = some (.int .i64 j) := by rw [cell_of_row _ _ _ _ _ _ K9.out]; rfl
                have n4 : w12.cell? ⟨V2.heap.size, 4, none⟩ = some (.slice none 0 0) := by rw [cell_of_row _ _ _ _ _ _ K9.out]; rfl
                have hsB : B ≤ w12.heap.size := by have := HSZ.out; have := O8.out; omega
                have hfc : Fcts w12 w12.heap.size lv2 st2.2 := (GF.out.ck ((CK.fill x _).trans (CK.fill _ _))).fcts (by have := HG2.out.few; omega) (fun i hi => by have := HG2.out.short i hi; omega)
                have hwy := why_any p st2.2 v e j false st2.1 true _ _ lv2 x w12 (B := w12.heap.size) ((HBV.out.below HBW8.out (Nat.le_refl _)).mono hsB) ((HRV.out.below HBW8.out (Nat.le_refl _)).mono hsB) hfc (Nat.le_refl _) GX.out HG2.out.len HPO.out HG2.out.fit (by have := HG2.out.few; omega) hv8 he hjl (HT.out.below HBW8.out hB0) (by omega)
                have HWY := Lib.hid hwy
                clear hfc hwy
                gi_wp2_with fail
                refine (CallsIn.inRound lp (callsIn_wide.2 HWY.out)).mono ?_
                rintro r w10 ⟨yv, rfl, hy, hb10⟩
                obtain ⟨ya, yn, yc, rfl⟩ : ∃ a n c, yv = .slice a n c := by
                  rcases hy.2 with ⟨h, _⟩ | ⟨g, cap, cur, h, _⟩
                  · exact ⟨_, _, _, h⟩
                  · exact ⟨_, _, _, h⟩
                have k10 := heap_later K9.out hb10 zz
                have hb20 := HB29.out.trans (hb10.mono HB29.out.size)
                have q4 : w10.cell? ⟨V2.heap.size, 4, none⟩ = some (.slice none 0 0) := by rw [cell_of_row _ _ _ _ _ _ k10]; rfl
                have q4f : w10.frozen? ⟨V2.heap.size, 4, none⟩ = false := by simp [World.frozen?, k10]
                have K10 := Lib.hid k10; have HY := Lib.hid hy; have HB20 := Lib.hid hb20
                clear k10 hy hb20 hb10 m0 mv m2 mrs n0 n1 n3 n4 HWY
                gi_wp2_with fail
                refine abs_in (fun V => V.heap[V2.heap.size]? = some (.cells #[.int .i64 v, .int .i64 e, .bool false, .int .i64 j, .slice ya yn yc] 56 (0, 0)) ∧ Below V2.heap.size V2 V ∧
                  V.ownsRow w12.heap.size 3 1 (.slice ya yn yc) (whyOf p st2.2 ⟨v, e, false, j, []⟩).length (intsV (whyOf p st2.2 ⟨v, e, false, j, []⟩)))
                  ⟨by simp only [World.setCell, Array.getElem?_modify, if_true, K10.out, Option.map_some]; rfl, HB20.out.setCell (Nat.le_refl _) _, ownsRow_setCell_other HY.out (fun hh => by have := (HY.out.lt _ hh).1; simp at this; omega) _⟩ ?_
                have zzo := zz
                have hs9 : w6.heap.size ≤ w12.heap.size := O8.out
                clear q4 q4f K9 K10 HY HB20 HB29 G0 G1 G2 GV GX GF H8 HK8 O8 HBW8 HPR zx z0 zv zz z1 z2 zl
                rintro W11 ⟨k11, hb11, hy11⟩
                refine wpIn_region_all (by kernel_rfl) (by kernel_rfl) (by rintro ⟨a, w, h⟩; exact h) ?_
                refine abs_any (fun V => V.heap[V2.heap.size]? = some (.cells #[.int .i64 v, .int .i64 e, .bool false, .int .i64 j, .slice ya yn yc] 56 (0, 0)) ∧ Below V2.heap.size V2 V ∧
                  V.ownsRow w12.heap.size 3 1 (.slice ya yn yc) (whyOf p st2.2 ⟨v, e, false, j, []⟩).length (intsV (whyOf p st2.2 ⟨v, e, false, j, []⟩))) ⟨k11, Go.Proofs.YtilbbnjfaoldoaaGreatDoor.Below.drewn hb11, hy11⟩ ?_
                clear k11 hb11 hy11
                clear W11
                rintro W11 ⟨k11, hb11, hy11⟩
                have K9 := Lib.hid k11; have HY := Lib.hid hy11
                clear k11 hy11
                have g0 := heap_later P0.out hb11 (by have := HSZ.out; omega)
                have g1 := heap_later P1.out hb11 (by have := HSZ.out; omega)
                have g2 := heap_later P2.out hb11 (by have := HSZ.out; omega)
                have gv := heap_later PV.out hb11 (by have := HSZ.out; omega)
                have gx := heap_later HX2.out hb11 (by have := HSZ.out; omega)
                have hf8 : FOwn (hole x (hole w5.heap.size W11)) base lv2 st2.2 := HF2.out.ck (CK.below hb11).hole.hole
                have h78 : Kept (Two x w5.heap.size) base w6 W11 := H7.out.below hb11
                have hk8 : Keep w5.heap.size w6.heap.size V2 W11 := (Keep.refl _ _ _).below hb11
                have G0 := Lib.hid g0; have G1 := Lib.hid g1; have G2 := Lib.hid g2; have GV := Lib.hid gv; have GX := Lib.hid gx; have GF := Lib.hid hf8; have H8 := Lib.hid h78; have HK8 := Lib.hid hk8
                have O8 := Lib.hid (show w6.heap.size ≤ W11.heap.size from H8.out.size)
                have HBW8 := Lib.hid (show Below B w W11 from (GR6.out.through H8.out (by have := HSZ.out; omega)).toBelow hBb (by omega) (fun q hq h => by unfold One at h; omega))
                have zz : V2.heap.size < W11.heap.size := (Array.getElem?_eq_some_iff.1 K9.out).1
                have zl : w5.heap.size < W11.heap.size := by omega
                have zx : x < W11.heap.size := by have := HSZ.out; omega
                have z0 : w.heap.size < W11.heap.size := by have := HSZ.out; omega
                have z1 : w.heap.size + 1 < W11.heap.size := by have := HSZ.out; omega
                have z2 : w.heap.size + 2 < W11.heap.size := by have := HSZ.out; omega
                have zv : W.heap.size < W11.heap.size := by have := HSZ.out; omega
                clear g0 g1 g2 gv gx hf8 h78 hk8
                have HB11 := Lib.hid hb11; clear hb11
                refine wpAny_of_held (S := fun V => V.cell? ⟨w.heap.size, 0, none⟩ = some (.pointer (some ⟨x, 0, none⟩)) ∧ V.cell? ⟨V2.heap.size, 0, none⟩ = some (.int .i64 v) ∧ V.cell? ⟨V2.heap.size, 1, none⟩ = some (.int .i64 e) ∧ V.cell? ⟨V2.heap.size, 2, none⟩ = some (.bool false) ∧ V.cell? ⟨V2.heap.size, 3, none⟩ = some (.int .i64 j) ∧ V.cell? ⟨V2.heap.size, 4, none⟩ = some (.slice ya yn yc)) _ _ _ _ ?_
                have hHeld : (fun V : World => V.cell? ⟨w.heap.size, 0, none⟩ = some (.pointer (some ⟨x, 0, none⟩)) ∧ V.cell? ⟨V2.heap.size, 0, none⟩ = some (.int .i64 v) ∧ V.cell? ⟨V2.heap.size, 1, none⟩ = some (.int .i64 e) ∧ V.cell? ⟨V2.heap.size, 2, none⟩ = some (.bool false) ∧ V.cell? ⟨V2.heap.size, 3, none⟩ = some (.int .i64 j) ∧ V.cell? ⟨V2.heap.size, 4, none⟩ = some (.slice ya yn yc)) W11 :=
                  ⟨by rw [cell_of_row _ _ _ _ _ _ G0.out]; rfl, by rw [cell_of_row _ _ _ _ _ _ K9.out]; rfl, by rw [cell_of_row _ _ _ _ _ _ K9.out]; rfl, by rw [cell_of_row _ _ _ _ _ _ K9.out]; rfl, by rw [cell_of_row _ _ _ _ _ _ K9.out]; rfl, by rw [cell_of_row _ _ _ _ _ _ K9.out]; rfl⟩
                refine wpAnyH_take (i := 0) (oi := { dst := some 80, op := Op.load 88 (Operand.tmp 2), type := 88, pos := "sets.go:288", after := #[], guard := none }) (v := ?_) rfl (by kernel_rfl) (by kernel_rfl) (by kernel_rfl) (fun _ _ _ h => h) (Or.inl ⟨by rfl, ?_⟩) (by assumption) ?_
                rotate_left
                · intro w hSw
                  try dsimp only at hSw
                  obtain ⟨hs0, hs1, hs2, hs3, hs4, hs5⟩ := hSw
                  go_simp
                  try with_reducible rfl
                simp only [Act.put, List.setIfInBounds_toArray, List.set_cons_zero, List.set_cons_succ]
                refine wpAnyH_take (i := 1) (oi := { dst := some 81, op := Op.load 88 (Operand.tmp 2), type := 88, pos := "sets.go:288", after := #[], guard := none }) (v := ?_) rfl (by kernel_rfl) (by kernel_rfl) (by kernel_rfl) (fun _ _ _ h => h) (Or.inl ⟨by rfl, ?_⟩) (by assumption) ?_
                rotate_left
                · intro w hSw
                  try dsimp only at hSw
                  obtain ⟨hs0, hs1, hs2, hs3, hs4, hs5⟩ := hSw
                  go_simp
                  try with_reducible rfl
                simp only [Act.put, List.setIfInBounds_toArray, List.set_cons_zero, List.set_cons_succ]
                refine wpAnyH_take (i := 2) (oi := { dst := some 82, op := Op.nilCheck (Operand.tmp 81), type := 0, pos := "sets.go:288", after := #[{ on := 1, ground := Ground.data }], guard := none }) (v := ?_) rfl (by kernel_rfl) (by kernel_rfl) (by kernel_rfl) (fun _ _ _ h => h) (Or.inl ⟨by rfl, ?_⟩) (by assumption) ?_
                rotate_left
                · intro w hSw
                  try dsimp only at hSw
                  obtain ⟨hs0, hs1, hs2, hs3, hs4, hs5⟩ := hSw
                  go_simp
                  try with_reducible rfl
                simp only [Act.put, List.setIfInBounds_toArray, List.set_cons_zero, List.set_cons_succ]
                refine wpAnyH_take (i := 3) (oi := { dst := some 83, op := Op.fieldAddr 91 (Operand.tmp 82) 2, type := 0, pos := "sets.go:288", after := #[{ on := 2, ground := Ground.data }], guard := none }) (v := ?_) rfl (by kernel_rfl) (by kernel_rfl) (by kernel_rfl) (fun _ _ _ h => h) (Or.inl ⟨by rfl, ?_⟩) (by assumption) ?_
                rotate_left
                · intro w hSw
                  try dsimp only at hSw
                  obtain ⟨hs0, hs1, hs2, hs3, hs4, hs5⟩ := hSw
                  go_simp
                  try with_reducible rfl
                simp only [Act.put, List.setIfInBounds_toArray, List.set_cons_zero, List.set_cons_succ]
                refine wpAnyH_take (i := 5) (oi := { dst := some 85, op := Op.load 56 (Operand.tmp 8), type := 56, pos := "sets.go:288", after := #[], guard := none }) (v := ?_) rfl (by kernel_rfl) (by kernel_rfl) (by kernel_rfl) (fun _ _ _ h => h) (Or.inl ⟨by rfl, ?_⟩) (by assumption) ?_
                rotate_left
                · intro w hSw
                  try dsimp only at hSw
                  obtain ⟨hs0, hs1, hs2, hs3, hs4, hs5⟩ := hSw
                  go_simp
                  try with_reducible rfl
                simp only [Act.put, List.setIfInBounds_toArray, List.set_cons_zero, List.set_cons_succ]
                have x18 : W11.cell? ⟨x, 18, none⟩ = some lv2 := (propC_cells HG2.out.len GX.out).2.2.2.1
                obtain ⟨cs, hc0, hc2⟩ := GF.out
                have hownx := hole_own hc0
                have hownB := hole_own (own_ck hc0 (CK.fill x _))
                have HBs11 := Lib.hid (HBs.out.same fun o ho => heap_later ho HB11.out (Array.getElem?_eq_some_iff.1 ho).1)
                refine wpAnyH_ready (rs := [4, 6]) (by kernel_rfl) (by simp) ?_
                refine AllReadyH.cons (o := { dst := some 84, op := Op.load 51 (Operand.tmp 83), type := 51, pos := "sets.go:288", after := #[{ on := 3, ground := Ground.data }], guard := none }) rfl (fun K hK => ?_) (AllReadyH.cons (o := { dst := some 86, op := Op.buildSlice 51 1 #[(0, Operand.tmp 85)], type := 51, pos := "sets.go:288", after := #[{ on := 5, ground := Ground.data }], guard := none }) rfl (fun K hK => ?_) AllReadyH.nil)
                · go_simp
                  refine hK.out _ _ hHeld (fun _ => ?_)
                  clear hK K
                  try simp only [Act.put, List.setIfInBounds_toArray, List.set_cons_zero, List.set_cons_succ]
                  refine wpAnyH_ready (rs := [6]) (by kernel_rfl) (by simp) ?_
                  refine AllReadyH.cons (o := { dst := some 86, op := Op.buildSlice 51 1 #[(0, Operand.tmp 85)], type := 51, pos := "sets.go:288", after := #[{ on := 5, ground := Ground.data }], guard := none }) rfl (fun K hK => ?_) AllReadyH.nil
                  go_simp
                  have hbx0 := Below.new1 W11 (.cells #[.int .i64 v, .int .i64 e, .bool false, .int .i64 j, .slice ya yn yc] 56)
                  have g0b := heap_later G0.out hbx0 z0
                  have k9b := heap_later K9.out hbx0 zz
                  have hHeld2 : (fun V : World => V.cell? ⟨w.heap.size, 0, none⟩ = some (.pointer (some ⟨x, 0, none⟩)) ∧ V.cell? ⟨V2.heap.size, 0, none⟩ = some (.int .i64 v) ∧ V.cell? ⟨V2.heap.size, 1, none⟩ = some (.int .i64 e) ∧ V.cell? ⟨V2.heap.size, 2, none⟩ = some (.bool false) ∧ V.cell? ⟨V2.heap.size, 3, none⟩ = some (.int .i64 j) ∧ V.cell? ⟨V2.heap.size, 4, none⟩ = some (.slice ya yn yc)) (W11.alloc (.cells #[.int .i64 v, .int .i64 e, .bool false, .int .i64 j, .slice ya yn yc] 56)) :=
                    ⟨by rw [cell_of_row _ _ _ _ _ _ g0b]; rfl, by rw [cell_of_row _ _ _ _ _ _ k9b]; rfl, by rw [cell_of_row _ _ _ _ _ _ k9b]; rfl, by rw [cell_of_row _ _ _ _ _ _ k9b]; rfl, by rw [cell_of_row _ _ _ _ _ _ k9b]; rfl, by rw [cell_of_row _ _ _ _ _ _ k9b]; rfl⟩
                  refine hK.out _ _ hHeld2 (fun _ => ?_)
                  clear hK K hbx0 g0b k9b hHeld2
                  try simp only [Act.put, List.setIfInBounds_toArray, List.set_cons_zero, List.set_cons_succ]
                  refine abs_anyH (fun V => Below W11.heap.size W11 V ∧ V.heap[W11.heap.size]? = some (.cells #[.int .i64 v, .int .i64 e, .bool false, .int .i64 j, .slice ya yn yc] 56 (0, 0))) ⟨Below.new1 _ _, heap_new0 _ _⟩ ?_
                  rintro X1 ⟨hbx, kx⟩
                  have g0x := heap_later G0.out hbx z0
                  have k9x := heap_later K9.out hbx zz
                  have HELD1 := Lib.hid (show (fun V : World => V.cell? ⟨w.heap.size, 0, none⟩ = some (.pointer (some ⟨x, 0, none⟩)) ∧ V.cell? ⟨V2.heap.size, 0, none⟩ = some (.int .i64 v) ∧ V.cell? ⟨V2.heap.size, 1, none⟩ = some (.int .i64 e) ∧ V.cell? ⟨V2.heap.size, 2, none⟩ = some (.bool false) ∧ V.cell? ⟨V2.heap.size, 3, none⟩ = some (.int .i64 j) ∧ V.cell? ⟨V2.heap.size, 4, none⟩ = some (.slice ya yn yc)) X1 from ⟨by rw [cell_of_row _ _ _ _ _ _ g0x]; rfl, by rw [cell_of_row _ _ _ _ _ _ k9x]; rfl, by rw [cell_of_row _ _ _ _ _ _ k9x]; rfl, by rw [cell_of_row _ _ _ _ _ _ k9x]; rfl, by rw [cell_of_row _ _ _ _ _ _ k9x]; rfl, by rw [cell_of_row _ _ _ _ _ _ k9x]; rfl⟩)
                  have KX := Lib.hid kx; have HBX := Lib.hid hbx
                  clear g0x k9x kx
                  refine wpAnyH_ready (rs := [7]) (by kernel_rfl) (by simp) ?_
                  refine AllReadyH.cons (o := { dst := some 87, op := Op.call { callee := Callee.builtin Builtin.append, args := #[Operand.tmp 84, Operand.tmp 86], argTypes := #[51, 51] }, type := 51, pos := "sets.go:288", after := #[{ on := 4, ground := Ground.data }, { on := 6, ground := Ground.data }], guard := none }) rfl (fun K hK => ?_) AllReadyH.nil
                  rw [if_pos (by rfl)]
                  obtain ⟨i0, hin, hz0, hz1, hz2⟩ := info_parts Tryz.info56
                  have hck1 := (((CK.fill x _).trans (CK.fill w5.heap.size W11))).trans (CK.below HBX.out)
                  have hcs1 := own_ck hc0 hck1
                  have hfew := HG2.out.few
                  refine wp_append_own X1 _ _ 51 rfl base 56 i0 _ 5 56 Tryz.underlying51 hin hz0 hz1 hz2 rfl (by decide) lv2 st2.2.length cs rfl hcs1 ⟨W11.heap.size, 0, none⟩ 1 1 [.int .i64 v, .int .i64 e, .bool false, .int .i64 j, .slice ya yn yc] rfl rfl ?_ ?_ (by unfold maxLen; omega) (by omega) (by have := hbx.size; have := HSZ.out; have := O8.out; omega) ?_
                  · intro q u hq
                    rw [Addr.add_lit, Nat.zero_add, cell_of_row _ _ _ _ _ _ KX.out, List.getElem?_toArray]; exact hq
                  · intro u hu
                    simp only [List.mem_cons, List.not_mem_nil, or_false] at hu
                    rcases hu with rfl | rfl | rfl | rfl | rfl <;> rfl
                  intro v' X2 hown2 hgrow2 _
                  have hlt2 : ∀ g, lv2.ownBlock = some g → g < V2.heap.size := fun g hg => by
                    obtain ⟨cs0, hc0', _⟩ := HF2.out
                    have := (hc0'.lt g hg).2
                    rwa [hole_size, hole_size] at this
                  have g0x := heap_later G0.out HBX.out z0
                  have k9x := heap_later K9.out HBX.out zz
                  have gvx := heap_later GV.out HBX.out zv
                  have gxx := heap_later GX.out HBX.out zx
                  have sz1 := HBX.out.size
                  have g02 := (hgrow2.block w.heap.size (by omega) (fun hh => own_apart hcs1 g0x (by decide) _ hh.symm rfl)).trans g0x
                  have gv2 := (hgrow2.block W.heap.size (by omega) (fun hh => own_apart hcs1 gvx (by decide) _ hh.symm rfl)).trans gvx
                  have k92 := (hgrow2.block V2.heap.size (by omega) (fun hh => by have := hlt2 _ hh.symm; omega)).trans k9x
                  have gx2 := (hgrow2.block x (by omega) (fun hh => hownx _ hh.symm rfl)).trans gxx
                  have hS2 : (fun V : World => V.cell? ⟨w.heap.size, 0, none⟩ = some (.pointer (some ⟨x, 0, none⟩)) ∧ V.cell? ⟨V2.heap.size, 0, none⟩ = some (.int .i64 v) ∧ V.cell? ⟨V2.heap.size, 1, none⟩ = some (.int .i64 e) ∧ V.cell? ⟨V2.heap.size, 2, none⟩ = some (.bool false) ∧ V.cell? ⟨V2.heap.size, 3, none⟩ = some (.int .i64 j) ∧ V.cell? ⟨V2.heap.size, 4, none⟩ = some (.slice ya yn yc)) X2 :=
                    ⟨by rw [cell_of_row _ _ _ _ _ _ g02]; rfl, by rw [cell_of_row _ _ _ _ _ _ k92]; rfl, by rw [cell_of_row _ _ _ _ _ _ k92]; rfl, by rw [cell_of_row _ _ _ _ _ _ k92]; rfl, by rw [cell_of_row _ _ _ _ _ _ k92]; rfl, by rw [cell_of_row _ _ _ _ _ _ k92]; rfl⟩
                  refine hK.out _ _ hS2 (fun _ => ?_)
                  clear hK K
                  try simp only [Act.put, List.setIfInBounds_toArray, List.set_cons_zero, List.set_cons_succ]
                  have kp2 := ((H8.out.below HBX.out)).grown hcs1 hgrow2
                  have ke2 := (HK8.out.below HBX.out).grown hcs1 hgrow2 hownB
                  have u2 := (HBs11.out.same fun o ho => heap_later ho HBX.out (Array.getElem?_eq_some_iff.1 ho).1).same fun o ho => (hgrow2.block _ (Array.getElem?_eq_some_iff.1 ho).1 (fun hh => hownB _ hh.symm rfl)).trans ho
                  have hy1 := own_mono (own_ck HY.out (CK.below HBX.out)) (show base ≤ w12.heap.size by have := HSZ.out; have := hs9; omega)
                  have hf2 : FOwn X2 base v' (st2.2 ++ [⟨v, e, false, j, whyOf p st2.2 ⟨v, e, false, j, []⟩⟩]) := FOwn.appended hcs1 hgrow2 (fun i hi => by
                    obtain ⟨e1, e2, e3, e4, yv, e5, e6⟩ := hc2 i hi
                    exact ⟨e1, e2, e3, e4, yv, e5, own_ck e6 hck1⟩) hy1 hown2
                  have G02 := Lib.hid g02; have GV2 := Lib.hid gv2; have K92 := Lib.hid k92; have GX2 := Lib.hid gx2; have KP2 := Lib.hid kp2; have KE2 := Lib.hid ke2; have U2 := Lib.hid u2; have HF3 := Lib.hid hf2; have HS2 := Lib.hid hS2
                  have zx2 : x < X2.heap.size := (Array.getElem?_eq_some_iff.1 gx2).1
                  obtain ⟨g5, cp, rfl⟩ := Slice.own_succ hown2
                  have xc := propC_cells HG2.out.len gx2
                  have x18b := xc.2.2.2.1
                  have x18f := xc.2.2.2.2.2 18
                  clear g0x k9x gvx gxx g02 gv2 k92 gx2 kp2 ke2 u2 hy1 hf2 hS2 hlt2 hown2 hgrow2 hcs1 hck1 xc
                  refine wpAnyH_ready (rs := [8]) (by kernel_rfl) (by simp) ?_
                  refine AllReadyH.cons rfl (fun K hK => ?_) AllReadyH.nil
                  go_simp
                  refine hK.out _ _ HS2.out (fun _ => ?_)
                  clear hK K
                  refine wpAnyH_ready (rs := [9]) (by kernel_rfl) (by simp) ?_
                  refine AllReadyH.cons rfl (fun K hK => ?_) AllReadyH.nil
                  go_simp
                  refine hK.out _ _ HS2.out (fun _ => ?_)
                  clear hK K
                  refine wpAnyH_ready (rs := [10]) (by kernel_rfl) (by simp) ?_
                  refine AllReadyH.cons rfl (fun K hK => ?_) AllReadyH.nil
                  go_simp
                  have n1 : w.heap.size ≠ x := by omega
                  have n2 : V2.heap.size ≠ x := by have := HSZ.out; omega
                  have n3 : W.heap.size ≠ x := by have := HSZ.out; omega
                  refine hK.out _ _ ⟨by rw [cell_of_row _ _ _ _ _ _ ((Below.heap_setCell _ _ _ _ n1).trans G02.out)]; rfl, by rw [cell_of_row _ _ _ _ _ _ ((Below.heap_setCell _ _ _ _ n2).trans K92.out)]; rfl, by rw [cell_of_row _ _ _ _ _ _ ((Below.heap_setCell _ _ _ _ n2).trans K92.out)]; rfl, by rw [cell_of_row _ _ _ _ _ _ ((Below.heap_setCell _ _ _ _ n2).trans K92.out)]; rfl, by rw [cell_of_row _ _ _ _ _ _ ((Below.heap_setCell _ _ _ _ n2).trans K92.out)]; rfl, by rw [cell_of_row _ _ _ _ _ _ ((Below.heap_setCell _ _ _ _ n2).trans K92.out)]; rfl⟩ (fun _ => ?_)
                  clear hK K x18b x18f
                  refine wpAnyH_done (by kernel_rfl) ?_ _
                  have hst := Lib.hid (prop_facts (fv' := .slice (some ⟨g5, 0, none⟩) (st2.2.length + 1) cp) HG2.out.len GX2.out)
                  have u3 := U2.out
                  obtain ⟨uc, u3⟩ := u3
                  have hfo : FOwn (hole x (hole w5.heap.size (X2.setCell ⟨x, 18, none⟩ (.slice (some ⟨g5, 0, none⟩) (st2.2.length + 1) cp)))) base (.slice (some ⟨g5, 0, none⟩) (st2.2.length + 1) cp) (st2.2 ++ [⟨v, e, false, j, whyOf p st2.2 ⟨v, e, false, j, []⟩⟩]) :=
                    ((HF3.out.hole u3 (by decide) (by decide)).hole (hole_block (by have := HSZ.out; omega) GX2.out) (by decide) (by decide)).ck (CK.hole_of (fun q c t f hq e => by
                      obtain ⟨h1, h2⟩ := hole_cells e
                      rw [hole_other h1]; exact (Below.heap_setCell _ _ _ _ hq).trans h2) (by simp [hole_size, World.setCell]))
                  refine abs_post (fun V => V.heap[w.heap.size]? = some (.cells #[.pointer (some ⟨x, 0, none⟩)] 88 (0, 0)) ∧ V.heap[W.heap.size]? = some (.cells #[.int .i64 v] 3 (0, 0)) ∧ V.heap[V2.heap.size]? = some (.cells #[.int .i64 v, .int .i64 e, .bool false, .int .i64 j, .slice ya yn yc] 56 (0, 0)) ∧
                    V.heap[x]? = some (.cells (propC (.slice ba p.bounds.length bc) (.slice (some ⟨rb, ro, none⟩) p.rules.length rc) st2.1 (.slice (some ⟨g5, 0, none⟩) (st2.2.length + 1) cp) true).toArray 91 (0, 0)) ∧
                    FOwn (hole x (hole w5.heap.size V)) base (.slice (some ⟨g5, 0, none⟩) (st2.2.length + 1) cp) (st2.2 ++ [⟨v, e, false, j, whyOf p st2.2 ⟨v, e, false, j, []⟩⟩]) ∧ Kept (Two x w5.heap.size) base w6 V ∧ Keep w5.heap.size w6.heap.size V2 V)
                    ⟨(Below.heap_setCell _ _ _ _ n1).trans G02.out, (Below.heap_setCell _ _ _ _ n3).trans GV2.out, (Below.heap_setCell _ _ _ _ n2).trans K92.out, hst.out, hfo, KP2.out.setCell (.inl rfl) _, KE2.out.setCell (by show x ≠ w5.heap.size; have := HSZ.out; omega) _⟩ ?_
                  have HNX2 := HNX; have HSN2 := HSN
                  clear hst hfo u3 G02 GV2 K92 GX2 KP2 KE2 U2 HF3 HS2 n1 n2 n3 G0 GV K9 GX GF H8 HK8 hHeld HELD1 KX HBX HB11 HBs11 hc0 hc2 hownx hownB HY HPO O8 HBW8 zx z0 zv zz z1 z2 zl zx2 x18 G1 G2
                  rintro X3 ⟨g0, gv, k9, gx, gf, h8, hk8⟩
                  have m0 : X3.cell? ⟨w.heap.size, 0, none⟩ = some (.pointer (some ⟨x, 0, none⟩)) := by rw [cell_of_row _ _ _ _ _ _ g0]; rfl
                  have mv : X3.cell? ⟨W.heap.size, 0, none⟩ = some (.int .i64 v) := by rw [cell_of_row _ _ _ _ _ _ gv]; rfl
                  have m2 : X3.cell? ⟨V2.heap.size, 2, none⟩ = some (.bool false) := by rw [cell_of_row _ _ _ _ _ _ k9]; rfl
                  have zx : x < X3.heap.size := (Array.getElem?_eq_some_iff.1 gx).1
                  have z0 : w.heap.size < X3.heap.size := (Array.getElem?_eq_some_iff.1 g0).1
                  have zv : W.heap.size < X3.heap.size := (Array.getElem?_eq_some_iff.1 gv).1
                  have zz : V2.heap.size < X3.heap.size := (Array.getElem?_eq_some_iff.1 k9).1
                  have HPR := Lib.hid (prop_row HG2.out.len gx)
                  have GX := Lib.hid gx; have GF := Lib.hid gf; have H8 := Lib.hid h8; have HK8 := Lib.hid hk8
                  clear g0 gv k9 gx gf h8 hk8
                  gi_wp2_with fail
                  refine wpIn_region_qbt 12 (by kernel_rfl) (by kernel_rfl) (by rintro ⟨a, w, h⟩; exact h) ?_
                  simp only [List.take_succ_cons, List.take_zero, List.drop_succ_cons, List.drop_zero]
                  repeat (first | (go_big_quiet_want; refine quiet_loadB _ rfl rfl (rowQ HPR.out zx) ?_; simp only [Act.put, List.setIfInBounds_toArray, List.set_cons_zero, List.set_cons_succ]; go_big_quiet_on) | go_big_quiet_step ((with_reducible exact Gives.quiet (with_any _ v e _ _ hb8 hv8 (by omega) HU64.out))))
                  refine wpQuiet_nil ?_
                  intro w10 hb10
                  have gx := heap_later GX.out hb10 zx
                  have hps := prop_store (now' := withB st2.1 v e false) HG2.out.len (by rw [withB_length]; exact hb8) gx
                  have hfin : elemPost w5.heap.size w6.heap.size (fun pre V => (∃ lv2, V.heap[x]? = some (.cells (propC (.slice ba p.bounds.length bc) (.slice (some ⟨rb, ro, none⟩) p.rules.length rc) (stE p true j v st' pre).1 lv2 true).toArray 91 (0, 0)) ∧ FOwn (hole x (hole w5.heap.size V)) base lv2 (stE p true j v st' pre).2) ∧ Kept (Two x w5.heap.size) base w6 V) (fun _ _ _ => False) (pre ++ [e]) V2 .normal { tmps := #[], defers := [] } (w10.setCells x 2 (bCells (withB st2.1 v e false))) := by
                    refine ⟨Keep.setCells (by have := HSZ.out; omega) _ _ _ (HK8.out.below hb10), ⟨(.slice (some ⟨g5, 0, none⟩) (st2.2.length + 1) cp), ?_, ?_⟩, (H8.out.below hb10).setCells (.inl rfl) _ _ _⟩
                    · rw [HSN.out, HNX.out]; exact hps.2.2
                    · rw [HSN.out, HNX.out]; exact GF.out.ck (CK.prop hb10)
                  have HPS := Lib.hid hps; have HFIN := Lib.hid hfin
                  clear gx hps hfin hb10
                  go_wp2_with (refine wpList_store_mid rfl 85 _ _ rfl _ _ _ rfl rfl HPS.out.1 HPS.out.2.1 (all_oneCell_toArray (bCells_one _)) ?_)
                  exact HFIN.out
                · go_simp
                  have hbx0 := Below.new1 W11 (.cells #[.int .i64 v, .int .i64 e, .bool false, .int .i64 j, .slice ya yn yc] 56)
                  have g0b := heap_later G0.out hbx0 z0
                  have k9b := heap_later K9.out hbx0 zz
                  have hHeld2 : (fun V : World => V.cell? ⟨w.heap.size, 0, none⟩ = some (.pointer (some ⟨x, 0, none⟩)) ∧ V.cell? ⟨V2.heap.size, 0, none⟩ = some (.int .i64 v) ∧ V.cell? ⟨V2.heap.size, 1, none⟩ = some (.int .i64 e) ∧ V.cell? ⟨V2.heap.size, 2, none⟩ = some (.bool false) ∧ V.cell? ⟨V2.heap.size, 3, none⟩ = some (.int .i64 j) ∧ V.cell? ⟨V2.heap.size, 4, none⟩ = some (.slice ya yn yc)) (W11.alloc (.cells #[.int .i64 v, .int .i64 e, .bool false, .int .i64 j, .slice ya yn yc] 56)) :=
                    ⟨by rw [cell_of_row _ _ _ _ _ _ g0b]; rfl, by rw [cell_of_row _ _ _ _ _ _ k9b]; rfl, by rw [cell_of_row _ _ _ _ _ _ k9b]; rfl, by rw [cell_of_row _ _ _ _ _ _ k9b]; rfl, by rw [cell_of_row _ _ _ _ _ _ k9b]; rfl, by rw [cell_of_row _ _ _ _ _ _ k9b]; rfl⟩
                  refine hK.out _ _ hHeld2 (fun _ => ?_)
                  clear hK K hbx0 g0b k9b hHeld2
                  try simp only [Act.put, List.setIfInBounds_toArray, List.set_cons_zero, List.set_cons_succ]
                  refine abs_anyH (fun V => Below W11.heap.size W11 V ∧ V.heap[W11.heap.size]? = some (.cells #[.int .i64 v, .int .i64 e, .bool false, .int .i64 j, .slice ya yn yc] 56 (0, 0))) ⟨Below.new1 _ _, heap_new0 _ _⟩ ?_
                  rintro X1 ⟨hbx, kx⟩
                  have g0x := heap_later G0.out hbx z0
                  have k9x := heap_later K9.out hbx zz
                  have HELD1 := Lib.hid (show (fun V : World => V.cell? ⟨w.heap.size, 0, none⟩ = some (.pointer (some ⟨x, 0, none⟩)) ∧ V.cell? ⟨V2.heap.size, 0, none⟩ = some (.int .i64 v) ∧ V.cell? ⟨V2.heap.size, 1, none⟩ = some (.int .i64 e) ∧ V.cell? ⟨V2.heap.size, 2, none⟩ = some (.bool false) ∧ V.cell? ⟨V2.heap.size, 3, none⟩ = some (.int .i64 j) ∧ V.cell? ⟨V2.heap.size, 4, none⟩ = some (.slice ya yn yc)) X1 from ⟨by rw [cell_of_row _ _ _ _ _ _ g0x]; rfl, by rw [cell_of_row _ _ _ _ _ _ k9x]; rfl, by rw [cell_of_row _ _ _ _ _ _ k9x]; rfl, by rw [cell_of_row _ _ _ _ _ _ k9x]; rfl, by rw [cell_of_row _ _ _ _ _ _ k9x]; rfl, by rw [cell_of_row _ _ _ _ _ _ k9x]; rfl⟩)
                  have KX := Lib.hid kx; have HBX := Lib.hid hbx
                  clear g0x k9x kx
                  have x18b : X1.cell? ⟨x, 18, none⟩ = some lv2 := (propC_cells HG2.out.len (heap_later GX.out hbx zx)).2.2.2.1
                  refine wpAnyH_ready (rs := [4]) (by kernel_rfl) (by simp) ?_
                  refine AllReadyH.cons (o := { dst := some 84, op := Op.load 51 (Operand.tmp 83), type := 51, pos := "sets.go:288", after := #[{ on := 3, ground := Ground.data }], guard := none }) rfl (fun K hK => ?_) AllReadyH.nil
                  go_simp
                  refine hK.out _ _ HELD1.out (fun _ => ?_)
                  clear hK K x18b
                  try simp only [Act.put, List.setIfInBounds_toArray, List.set_cons_zero, List.set_cons_succ]
                  refine wpAnyH_ready (rs := [7]) (by kernel_rfl) (by simp) ?_
                  refine AllReadyH.cons (o := { dst := some 87, op := Op.call { callee := Callee.builtin Builtin.append, args := #[Operand.tmp 84, Operand.tmp 86], argTypes := #[51, 51] }, type := 51, pos := "sets.go:288", after := #[{ on := 4, ground := Ground.data }, { on := 6, ground := Ground.data }], guard := none }) rfl (fun K hK => ?_) AllReadyH.nil
                  rw [if_pos (by rfl)]
                  obtain ⟨i0, hin, hz0, hz1, hz2⟩ := info_parts Tryz.info56
                  have hck1 := (((CK.fill x _).trans (CK.fill w5.heap.size W11))).trans (CK.below HBX.out)
                  have hcs1 := own_ck hc0 hck1
                  have hfew := HG2.out.few
                  refine wp_append_own X1 _ _ 51 rfl base 56 i0 _ 5 56 Tryz.underlying51 hin hz0 hz1 hz2 rfl (by decide) lv2 st2.2.length cs rfl hcs1 ⟨W11.heap.size, 0, none⟩ 1 1 [.int .i64 v, .int .i64 e, .bool false, .int .i64 j, .slice ya yn yc] rfl rfl ?_ ?_ (by unfold maxLen; omega) (by omega) (by have := hbx.size; have := HSZ.out; have := O8.out; omega) ?_
                  · intro q u hq
                    rw [Addr.add_lit, Nat.zero_add, cell_of_row _ _ _ _ _ _ KX.out, List.getElem?_toArray]; exact hq
                  · intro u hu
                    simp only [List.mem_cons, List.not_mem_nil, or_false] at hu
                    rcases hu with rfl | rfl | rfl | rfl | rfl <;> rfl
                  intro v' X2 hown2 hgrow2 _
                  have hlt2 : ∀ g, lv2.ownBlock = some g → g < V2.heap.size := fun g hg => by
                    obtain ⟨cs0, hc0', _⟩ := HF2.out
                    have := (hc0'.lt g hg).2
                    rwa [hole_size, hole_size] at this
                  have g0x := heap_later G0.out HBX.out z0
                  have k9x := heap_later K9.out HBX.out zz
                  have gvx := heap_later GV.out HBX.out zv
                  have gxx := heap_later GX.out HBX.out zx
                  have sz1 := HBX.out.size
                  have g02 := (hgrow2.block w.heap.size (by omega) (fun hh => own_apart hcs1 g0x (by decide) _ hh.symm rfl)).trans g0x
                  have gv2 := (hgrow2.block W.heap.size (by omega) (fun hh => own_apart hcs1 gvx (by decide) _ hh.symm rfl)).trans gvx
                  have k92 := (hgrow2.block V2.heap.size (by omega) (fun hh => by have := hlt2 _ hh.symm; omega)).trans k9x
                  have gx2 := (hgrow2.block x (by omega) (fun hh => hownx _ hh.symm rfl)).trans gxx
                  have hS2 : (fun V : World => V.cell? ⟨w.heap.size, 0, none⟩ = some (.pointer (some ⟨x, 0, none⟩)) ∧ V.cell? ⟨V2.heap.size, 0, none⟩ = some (.int .i64 v) ∧ V.cell? ⟨V2.heap.size, 1, none⟩ = some (.int .i64 e) ∧ V.cell? ⟨V2.heap.size, 2, none⟩ = some (.bool false) ∧ V.cell? ⟨V2.heap.size, 3, none⟩ = some (.int .i64 j) ∧ V.cell? ⟨V2.heap.size, 4, none⟩ = some (.slice ya yn yc)) X2 :=
                    ⟨by rw [cell_of_row _ _ _ _ _ _ g02]; rfl, by rw [cell_of_row _ _ _ _ _ _ k92]; rfl, by rw [cell_of_row _ _ _ _ _ _ k92]; rfl, by rw [cell_of_row _ _ _ _ _ _ k92]; rfl, by rw [cell_of_row _ _ _ _ _ _ k92]; rfl, by rw [cell_of_row _ _ _ _ _ _ k92]; rfl⟩
                  refine hK.out _ _ hS2 (fun _ => ?_)
                  clear hK K
                  try simp only [Act.put, List.setIfInBounds_toArray, List.set_cons_zero, List.set_cons_succ]
                  have kp2 := ((H8.out.below HBX.out)).grown hcs1 hgrow2
                  have ke2 := (HK8.out.below HBX.out).grown hcs1 hgrow2 hownB
                  have u2 := (HBs11.out.same fun o ho => heap_later ho HBX.out (Array.getElem?_eq_some_iff.1 ho).1).same fun o ho => (hgrow2.block _ (Array.getElem?_eq_some_iff.1 ho).1 (fun hh => hownB _ hh.symm rfl)).trans ho
                  have hy1 := own_mono (own_ck HY.out (CK.below HBX.out)) (show base ≤ w12.heap.size by have := HSZ.out; have := hs9; omega)
                  have hf2 : FOwn X2 base v' (st2.2 ++ [⟨v, e, false, j, whyOf p st2.2 ⟨v, e, false, j, []⟩⟩]) := FOwn.appended hcs1 hgrow2 (fun i hi => by
                    obtain ⟨e1, e2, e3, e4, yv, e5, e6⟩ := hc2 i hi
                    exact ⟨e1, e2, e3, e4, yv, e5, own_ck e6 hck1⟩) hy1 hown2
                  have G02 := Lib.hid g02; have GV2 := Lib.hid gv2; have K92 := Lib.hid k92; have GX2 := Lib.hid gx2; have KP2 := Lib.hid kp2; have KE2 := Lib.hid ke2; have U2 := Lib.hid u2; have HF3 := Lib.hid hf2; have HS2 := Lib.hid hS2
                  have zx2 : x < X2.heap.size := (Array.getElem?_eq_some_iff.1 gx2).1
                  obtain ⟨g5, cp, rfl⟩ := Slice.own_succ hown2
                  have xc := propC_cells HG2.out.len gx2
                  have x18b := xc.2.2.2.1
                  have x18f := xc.2.2.2.2.2 18
                  clear g0x k9x gvx gxx g02 gv2 k92 gx2 kp2 ke2 u2 hy1 hf2 hS2 hlt2 hown2 hgrow2 hcs1 hck1 xc
                  refine wpAnyH_ready (rs := [8]) (by kernel_rfl) (by simp) ?_
                  refine AllReadyH.cons rfl (fun K hK => ?_) AllReadyH.nil
                  go_simp
                  refine hK.out _ _ HS2.out (fun _ => ?_)
                  clear hK K
                  refine wpAnyH_ready (rs := [9]) (by kernel_rfl) (by simp) ?_
                  refine AllReadyH.cons rfl (fun K hK => ?_) AllReadyH.nil
                  go_simp
                  refine hK.out _ _ HS2.out (fun _ => ?_)
                  clear hK K
                  refine wpAnyH_ready (rs := [10]) (by kernel_rfl) (by simp) ?_
                  refine AllReadyH.cons rfl (fun K hK => ?_) AllReadyH.nil
                  go_simp
                  have n1 : w.heap.size ≠ x := by omega
                  have n2 : V2.heap.size ≠ x := by have := HSZ.out; omega
                  have n3 : W.heap.size ≠ x := by have := HSZ.out; omega
                  refine hK.out _ _ ⟨by rw [cell_of_row _ _ _ _ _ _ ((Below.heap_setCell _ _ _ _ n1).trans G02.out)]; rfl, by rw [cell_of_row _ _ _ _ _ _ ((Below.heap_setCell _ _ _ _ n2).trans K92.out)]; rfl, by rw [cell_of_row _ _ _ _ _ _ ((Below.heap_setCell _ _ _ _ n2).trans K92.out)]; rfl, by rw [cell_of_row _ _ _ _ _ _ ((Below.heap_setCell _ _ _ _ n2).trans K92.out)]; rfl, by rw [cell_of_row _ _ _ _ _ _ ((Below.heap_setCell _ _ _ _ n2).trans K92.out)]; rfl, by rw [cell_of_row _ _ _ _ _ _ ((Below.heap_setCell _ _ _ _ n2).trans K92.out)]; rfl⟩ (fun _ => ?_)
                  clear hK K x18b x18f
                  refine wpAnyH_done (by kernel_rfl) ?_ _
                  have hst := Lib.hid (prop_facts (fv' := .slice (some ⟨g5, 0, none⟩) (st2.2.length + 1) cp) HG2.out.len GX2.out)
                  have u3 := U2.out
                  obtain ⟨uc, u3⟩ := u3
                  have hfo : FOwn (hole x (hole w5.heap.size (X2.setCell ⟨x, 18, none⟩ (.slice (some ⟨g5, 0, none⟩) (st2.2.length + 1) cp)))) base (.slice (some ⟨g5, 0, none⟩) (st2.2.length + 1) cp) (st2.2 ++ [⟨v, e, false, j, whyOf p st2.2 ⟨v, e, false, j, []⟩⟩]) :=
                    ((HF3.out.hole u3 (by decide) (by decide)).hole (hole_block (by have := HSZ.out; omega) GX2.out) (by decide) (by decide)).ck (CK.hole_of (fun q c t f hq e => by
                      obtain ⟨h1, h2⟩ := hole_cells e
                      rw [hole_other h1]; exact (Below.heap_setCell _ _ _ _ hq).trans h2) (by simp [hole_size, World.setCell]))
                  refine abs_post (fun V => V.heap[w.heap.size]? = some (.cells #[.pointer (some ⟨x, 0, none⟩)] 88 (0, 0)) ∧ V.heap[W.heap.size]? = some (.cells #[.int .i64 v] 3 (0, 0)) ∧ V.heap[V2.heap.size]? = some (.cells #[.int .i64 v, .int .i64 e, .bool false, .int .i64 j, .slice ya yn yc] 56 (0, 0)) ∧
                    V.heap[x]? = some (.cells (propC (.slice ba p.bounds.length bc) (.slice (some ⟨rb, ro, none⟩) p.rules.length rc) st2.1 (.slice (some ⟨g5, 0, none⟩) (st2.2.length + 1) cp) true).toArray 91 (0, 0)) ∧
                    FOwn (hole x (hole w5.heap.size V)) base (.slice (some ⟨g5, 0, none⟩) (st2.2.length + 1) cp) (st2.2 ++ [⟨v, e, false, j, whyOf p st2.2 ⟨v, e, false, j, []⟩⟩]) ∧ Kept (Two x w5.heap.size) base w6 V ∧ Keep w5.heap.size w6.heap.size V2 V)
                    ⟨(Below.heap_setCell _ _ _ _ n1).trans G02.out, (Below.heap_setCell _ _ _ _ n3).trans GV2.out, (Below.heap_setCell _ _ _ _ n2).trans K92.out, hst.out, hfo, KP2.out.setCell (.inl rfl) _, KE2.out.setCell (by show x ≠ w5.heap.size; have := HSZ.out; omega) _⟩ ?_
                  have HNX2 := HNX; have HSN2 := HSN
                  clear hst hfo u3 G02 GV2 K92 GX2 KP2 KE2 U2 HF3 HS2 n1 n2 n3 G0 GV K9 GX GF H8 HK8 hHeld HELD1 KX HBX HB11 HBs11 hc0 hc2 hownx hownB HY HPO O8 HBW8 zx z0 zv zz z1 z2 zl zx2 x18 G1 G2
                  rintro X3 ⟨g0, gv, k9, gx, gf, h8, hk8⟩
                  have m0 : X3.cell? ⟨w.heap.size, 0, none⟩ = some (.pointer (some ⟨x, 0, none⟩)) := by rw [cell_of_row _ _ _ _ _ _ g0]; rfl
                  have mv : X3.cell? ⟨W.heap.size, 0, none⟩ = some (.int .i64 v) := by rw [cell_of_row _ _ _ _ _ _ gv]; rfl
                  have m2 : X3.cell? ⟨V2.heap.size, 2, none⟩ = some (.bool false) := by rw [cell_of_row _ _ _ _ _ _ k9]; rfl
                  have zx : x < X3.heap.size := (Array.getElem?_eq_some_iff.1 gx).1
                  have z0 : w.heap.size < X3.heap.size := (Array.getElem?_eq_some_iff.1 g0).1
                  have zv : W.heap.size < X3.heap.size := (Array.getElem?_eq_some_iff.1 gv).1
                  have zz : V2.heap.size < X3.heap.size := (Array.getElem?_eq_some_iff.1 k9).1
                  have HPR := Lib.hid (prop_row HG2.out.len gx)
                  have GX := Lib.hid gx; have GF := Lib.hid gf; have H8 := Lib.hid h8; have HK8 := Lib.hid hk8
                  clear g0 gv k9 gx gf h8 hk8
                  gi_wp2_with fail
                  refine wpIn_region_qbt 12 (by kernel_rfl) (by kernel_rfl) (by rintro ⟨a, w, h⟩; exact h) ?_
                  simp only [List.take_succ_cons, List.take_zero, List.drop_succ_cons, List.drop_zero]
                  repeat (first | (go_big_quiet_want; refine quiet_loadB _ rfl rfl (rowQ HPR.out zx) ?_; simp only [Act.put, List.setIfInBounds_toArray, List.set_cons_zero, List.set_cons_succ]; go_big_quiet_on) | go_big_quiet_step ((with_reducible exact Gives.quiet (with_any _ v e _ _ hb8 hv8 (by omega) HU64.out))))
                  refine wpQuiet_nil ?_
                  intro w10 hb10
                  have gx := heap_later GX.out hb10 zx
                  have hps := prop_store (now' := withB st2.1 v e false) HG2.out.len (by rw [withB_length]; exact hb8) gx
                  have hfin : elemPost w5.heap.size w6.heap.size (fun pre V => (∃ lv2, V.heap[x]? = some (.cells (propC (.slice ba p.bounds.length bc) (.slice (some ⟨rb, ro, none⟩) p.rules.length rc) (stE p true j v st' pre).1 lv2 true).toArray 91 (0, 0)) ∧ FOwn (hole x (hole w5.heap.size V)) base lv2 (stE p true j v st' pre).2) ∧ Kept (Two x w5.heap.size) base w6 V) (fun _ _ _ => False) (pre ++ [e]) V2 .normal { tmps := #[], defers := [] } (w10.setCells x 2 (bCells (withB st2.1 v e false))) := by
                    refine ⟨Keep.setCells (by have := HSZ.out; omega) _ _ _ (HK8.out.below hb10), ⟨(.slice (some ⟨g5, 0, none⟩) (st2.2.length + 1) cp), ?_, ?_⟩, (H8.out.below hb10).setCells (.inl rfl) _ _ _⟩
                    · rw [HSN.out, HNX.out]; exact hps.2.2
                    · rw [HSN.out, HNX.out]; exact GF.out.ck (CK.prop hb10)
                  have HPS := Lib.hid hps; have HFIN := Lib.hid hfin
                  clear gx hps hfin hb10
                  go_wp2_with (refine wpList_store_mid rfl 85 _ _ rfl _ _ _ rfl rfl HPS.out.1 HPS.out.2.1 (all_oneCell_toArray (bCells_one _)) ?_)
                  exact HFIN.out
            case true =>
              refine wpIn_region_qb (by kernel_rfl) (by kernel_rfl) (by rintro ⟨a, w, h⟩; exact h) ?_
              repeat (first | (go_big_quiet_want; refine quiet_loadB _ rfl rfl (rowQ HPR.out zx) ?_; simp only [Act.put, List.setIfInBounds_toArray, List.set_cons_zero, List.set_cons_succ]; go_big_quiet_on) | go_big_quiet_step ((with_reducible exact Gives.quiet (HP.out _ _))))
              refine wpQuiet_nil ?_
              intro w12 hb9
              have hb29 := HB28.out.trans (hb9.mono HB28.out.size)
              have k9 := heap_later K9.out hb9 zz
              clear G0 G1 G2 GV GX GF H8 HK8 O8 HBW8 HPR HP b0 d0 d1 d2 d3 f0 f1 f2 f3 f4 zx z0 zv zz z1 z2 zl
              clear K9
              have K9 := Lib.hid k9
              have g0 := heap_later P0.out hb29 (by have := HSZ.out; omega)
              have g1 := heap_later P1.out hb29 (by have := HSZ.out; omega)
              have g2 := heap_later P2.out hb29 (by have := HSZ.out; omega)
              have gv := heap_later PV.out hb29 (by have := HSZ.out; omega)
              have gx := heap_later HX2.out hb29 (by have := HSZ.out; omega)
              have hf8 : FOwn (hole x (hole w5.heap.size w12)) base lv2 st2.2 := HF2.out.ck (CK.below hb29).hole.hole
              have h78 : Kept (Two x w5.heap.size) base w6 w12 := H7.out.below hb29
              have hk8 : Keep w5.heap.size w6.heap.size V2 w12 := (Keep.refl _ _ _).below hb29
              have G0 := Lib.hid g0; have G1 := Lib.hid g1; have G2 := Lib.hid g2; have GV := Lib.hid gv; have GX := Lib.hid gx; have GF := Lib.hid hf8; have H8 := Lib.hid h78; have HK8 := Lib.hid hk8
              have O8 := Lib.hid (show w6.heap.size ≤ w12.heap.size from H8.out.size)
              have HBW8 := Lib.hid (show Below B w w12 from (GR6.out.through H8.out (by have := HSZ.out; omega)).toBelow hBb (by omega) (fun q hq h => by unfold One at h; omega))
              have zz : V2.heap.size < w12.heap.size := (Array.getElem?_eq_some_iff.1 K9.out).1
              have zl : w5.heap.size < w12.heap.size := by omega
              have zx : x < w12.heap.size := by have := HSZ.out; omega
              have z0 : w.heap.size < w12.heap.size := by have := HSZ.out; omega
              have z1 : w.heap.size + 1 < w12.heap.size := by have := HSZ.out; omega
              have z2 : w.heap.size + 2 < w12.heap.size := by have := HSZ.out; omega
              have zv : W.heap.size < w12.heap.size := by have := HSZ.out; omega
              clear g0 g1 g2 gv gx hf8 h78 hk8
              have hnx : stepE p rs j v st2 e = st2 := by unfold stepE tryE; rw [show possB (withB st2.1 v e false) (rget p.rules j) = true from hT1, show possB (withB st2.1 v e true) (rget p.rules j) = true from hT2]; rfl
              have HFIN : Hid (Keep w5.heap.size w6.heap.size V2 w12 ∧ (∃ lv2, w12.heap[x]? = some (.cells (propC (.slice ba p.bounds.length bc) (.slice (some ⟨rb, ro, none⟩) p.rules.length rc) (stE p rs j v st' (pre ++ [e])).1 lv2 rs).toArray 91 (0, 0)) ∧ FOwn (hole x (hole w5.heap.size w12)) base lv2 (stE p rs j v st' (pre ++ [e])).2) ∧ Kept (Two x w5.heap.size) base w6 w12) := by
                rw [HSN.out, hnx]
                exact ⟨HK8.out, ⟨lv2, GX.out, GF.out⟩, H8.out⟩
              clear k9 hb9 hb29 HB28
              gi_wp2
              exact HFIN.out
      · have hk2 : k = (rget p.rules j).vars.length := by omega
        subst hk2
        have HD' := Lib.hid hD; have HND := Lib.hid hnd; have HX' := Lib.hid hx; have HF' := Lib.hid hf; have HGR := Lib.hid hgr
        clear hD hnd hx hf hgr
        go_wp2
        refine leaves_marks (v := .tuple #[]) (L := w.heap.size + 3) Ds W HND.out HD'.out ?_
        intro w' hb hck
        have hx' := hck.same _ _ _ _ HX'.out
        have hf' := HF'.out.ck hck.hole
        rw [List.take_length] at hx' hf'
        exact ⟨results_none rfl _ _ _, .inl ⟨hpo, ⟨_, rfl⟩, lv', hx', hf', ⟨hb.os.trans HGR.out.os, hb.tape.trans HGR.out.tape, hb.output.trans HGR.out.output, Nat.le_trans HGR.out.size hb.size, fun q o e hE hn => (hb.block q (by have := (Array.getElem?_eq_some_iff.1 e).1; omega)).trans (HGR.out.same q o e hE hn)⟩⟩⟩
end Go.Proofs.YtilbbnjfaoldoaaGreatDoor
