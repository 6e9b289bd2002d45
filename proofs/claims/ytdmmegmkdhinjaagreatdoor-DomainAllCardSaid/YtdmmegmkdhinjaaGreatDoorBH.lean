/- What a cut hangs on, in plain Lean: the numbers that are met, and the rules, sorted. · Package domain: what a cut hangs on. · Library functions laid at this program: slices.Sort and slices.Compact of ints. · Package domain: Core. -/
import Derived.Test.YtdmmegmkdhinjaaGreatDoorBD
import Derived.Test.YtdmmegmkdhinjaaGreatDoorBG
import Derived.Test.YtdmmegmkdhinjaaGreatDoorProg
import Derived.Lib.SlicesCompact
import Derived.MapKept
import Derived.Shelf.Sort.Plain
import Derived.Shelf.Slices.CompactI
import Derived.Ground.NamesProg
import Derived.Ground.Names2Prog
import Derived.Sort.OwnSortedInts
import Derived.Lib.OwnBridge
namespace Go.Proofs.YtdmmegmkdhinjaaGreatDoor
open Go Go.RowKit

/-- The numbers that were met, and their rules, in the order in which they are met. -/
def visC (l : List Cut) : Nat → Nat → List Nat × List Int → List Nat × List Int
  | 0, _, st => st
  | f + 1, k, st => if st.1.contains k then st else (cget l k).why.foldl (fun s x => visC l f x.toNat s) (st.1 ++ [k], st.2 ++ [(cget l k).rule])
/-- The rules that a cut hangs on. -/
def coreD (p : Dp) (l : List Cut) (n : Nat) : List Int := ((List.range p.rules.length).filter fun (r : Nat) => (visC l (n + 1) n ([], [])).2.contains (natI r)).map natI
/-- What a right log's cuts are. -/
def RLog (p : Dp) (l : List Cut) : Prop := ∀ k, k < l.length → (∃ j : Nat, (cget l k).rule = j ∧ j < p.rules.length) ∧ NatsB k (cget l k).why

theorem foldl_inv {α σ : Type} {P : σ → Prop} {f : σ → α → σ} : ∀ (xs : List α) (s : σ), P s → (∀ x ∈ xs, ∀ s, P s → P (f s x)) → P (xs.foldl f s)
  | [], _, h, _ => h
  | x :: xs, s, h, hs => foldl_inv xs (f s x) (hs x (by simp) s h) fun y hy => hs y (by simp [hy])
/-- Rules that were met are few. -/
def CS (n : Nat) (st : List Nat × List Int) : Prop := st.2.length + ((List.range n).filter fun i => !st.1.contains i).length ≤ n
theorem CS.start (n : Nat) : CS n ([], []) := by
  unfold CS
  have := List.length_filter_le (fun i => !([] : List Nat).contains i) (List.range n)
  rw [List.length_range] at this
  simpa using this
theorem CS.le {n : Nat} {st : List Nat × List Int} (h : CS n st) : st.2.length ≤ n := by unfold CS at h; omega
theorem CS.step {n k : Nat} {st : List Nat × List Int} (h : CS n st) (hk : k < n) (hm : st.1.contains k = false) (r : Int) : CS n (st.1 ++ [k], st.2 ++ [r]) := by
  unfold CS at *
  have e : (List.range n).filter (fun i => !(st.1 ++ [k]).contains i) = ((List.range n).filter fun i => !st.1.contains i).filter fun i => !(i == k) := by
    rw [List.filter_filter]
    apply List.filter_congr
    intro i _
    rw [List.contains_append]
    cases hc : st.1.contains i <;> by_cases hik : i = k <;> simp [hik]
  rw [e]
  have hlt : (((List.range n).filter fun i => !st.1.contains i).filter fun i => !(i == k)).length < ((List.range n).filter fun i => !st.1.contains i).length := by
    rw [List.length_filter_lt_length_iff_exists]
    exact ⟨k, List.mem_filter.2 ⟨List.mem_range.2 hk, by rw [hm]; rfl⟩, by simp⟩
  simp only [List.length_append, List.length_singleton]
  omega
theorem CS.vis {l : List Cut} {p : Dp} (hl : RLog p l) : ∀ (f k : Nat) (st : List Nat × List Int), k < l.length → CS l.length st → CS l.length (visC l f k st)
  | 0, _, _, _, h => h
  | f + 1, k, st, hk, h => by
    unfold visC
    split
    · exact h
    · rename_i hc
      refine foldl_inv (P := CS l.length) _ _ (h.step hk (by simpa using hc) _) fun x hx s hs => ?_
      obtain ⟨j, rfl, hj⟩ := (hl k hk).2 x hx
      exact CS.vis hl f _ s (by simp; omega) hs
/-- What holds for all rules holds for those that are met. -/
theorem vis_rules {l : List Cut} {p : Dp} (hl : RLog p l) {Q : Int → Prop} (hQ : ∀ k, k < l.length → Q (cget l k).rule) : ∀ (f k : Nat) (st : List Nat × List Int), k < l.length → (∀ x ∈ st.2, Q x) → ∀ x ∈ (visC l f k st).2, Q x
  | 0, _, _, _, h => h
  | f + 1, k, st, hk, h => by
    unfold visC
    split
    · exact h
    · refine foldl_inv (P := fun s : List Nat × List Int => ∀ x ∈ s.2, Q x) _ _ ?_ fun x hx s hs => ?_
      · intro x hx
        rcases List.mem_append.1 hx with hx | hx
        · exact h x hx
        · rw [List.mem_singleton.1 hx]; exact hQ k hk
      · obtain ⟨j, rfl, hj⟩ := (hl k hk).2 x hx
        exact vis_rules hl hQ f _ s (by simp; omega) hs

/-! sorted lists -/
theorem sorted_ext : ∀ {a b : List Int}, a.Pairwise (· < ·) → b.Pairwise (· < ·) → (∀ x, x ∈ a ↔ x ∈ b) → a = b
  | [], [], _, _, _ => rfl
  | [], y :: ys, _, _, h => by have := (h y).2 (by simp); simp at this
  | x :: xs, [], _, _, h => by have := (h x).1 (by simp); simp at this
  | x :: xs, y :: ys, ha, hb, h => by
    rw [List.pairwise_cons] at ha hb
    have hxy : x = y := by
      rcases List.mem_cons.1 ((h x).1 (by simp)) with e | e
      · exact e
      · rcases List.mem_cons.1 ((h y).2 (by simp)) with e' | e'
        · exact e'.symm
        · have := hb.1 x e; have := ha.1 y e'; omega
    subst hxy
    rw [sorted_ext ha.2 hb.2 fun z => ?_]
    constructor
    · intro hz
      rcases List.mem_cons.1 ((h z).1 (by simp [hz])) with e | e
      · subst e; have := ha.1 z hz; omega
      · exact e
    · intro hz
      rcases List.mem_cons.1 ((h z).2 (by simp [hz])) with e | e
      · subst e; have := hb.1 z hz; omega
      · exact e
theorem compactUp_sorted (d : Array Int) (hs : ∀ i j, i < j → j < d.size → d[i]! ≤ d[j]!) : ∀ m, m ≤ d.size → (Lib.compactUpTo d m).Pairwise (· < ·) ∧ (∀ x, x ∈ Lib.compactUpTo d m ↔ ∃ j, j < m ∧ d[j]! = x)
  | 0, _ => ⟨by simp [Lib.compactUpTo], by simp [Lib.compactUpTo]⟩
  | m + 1, hm => by
    obtain ⟨h1, h2⟩ := compactUp_sorted d hs m (by omega)
    rw [Lib.compactUpTo_succ]
    cases hk : Lib.keeps d m
    · have hk0 : m ≠ 0 ∧ d[m]! = d[m - 1]! := by unfold Lib.keeps at hk; simpa using hk
      simp only [Bool.false_eq_true, if_false, List.append_nil]
      refine ⟨h1, fun x => ?_⟩
      rw [h2]
      constructor
      · rintro ⟨j, hj, e⟩; exact ⟨j, by omega, e⟩
      · rintro ⟨j, hj, e⟩
        by_cases hjm : j = m
        · subst hjm; exact ⟨j - 1, by omega, by rw [← hk0.2]; exact e⟩
        · exact ⟨j, by omega, e⟩
    · have hk0 : m = 0 ∨ d[m]! ≠ d[m - 1]! := by unfold Lib.keeps at hk; simpa using hk
      simp only [if_true]
      refine ⟨List.pairwise_append.2 ⟨h1, by simp, fun x hx y hy => ?_⟩, fun x => ?_⟩
      · rw [List.mem_singleton.1 hy]
        obtain ⟨j, hj, e⟩ := (h2 x).1 hx
        have hm1 := hs (m - 1) m (by omega) (by omega)
        have hj1 : d[j]! ≤ d[m - 1]! := by
          by_cases hjm : j = m - 1
          · subst hjm; omega
          · exact hs j (m - 1) (by omega) (by omega)
        rcases hk0 with h | h <;> omega
      · rw [List.mem_append, h2, List.mem_singleton]
        constructor
        · rintro (⟨j, hj, e⟩ | e)
          · exact ⟨j, by omega, e⟩
          · exact ⟨m, by omega, e.symm⟩
        · rintro ⟨j, hj, e⟩
          by_cases hjm : j = m
          · subst hjm; exact .inr e.symm
          · exact .inl ⟨j, by omega, e⟩
theorem compact_sort (zs : List Int) : (Lib.compact (zs.mergeSort fun x y => decide (x ≤ y))).Pairwise (· < ·) ∧ ∀ x, x ∈ Lib.compact (zs.mergeSort fun x y => decide (x ≤ y)) ↔ x ∈ zs := by
  have hp := List.mergeSort_perm zs fun x y => decide (x ≤ y)
  have hs := List.pairwise_mergeSort (le := fun x y : Int => decide (x ≤ y)) (fun a b c h1 h2 => by simp at *; omega) (fun a b => by simp; omega) zs
  obtain ⟨ys, hys⟩ : ∃ ys, ys = zs.mergeSort fun x y => decide (x ≤ y) := ⟨_, rfl⟩
  rw [← hys] at hp hs ⊢
  have h := compactUp_sorted ys.toArray (fun i j hij hj => by
    have hj' : j < ys.length := by simpa using hj
    have := List.pairwise_iff_getElem.1 hs i j (by omega) hj' hij
    simpa [getElem!_pos, show i < ys.length by omega, hj'] using this) ys.length (by simp)
  refine ⟨h.1, fun x => ?_⟩
  rw [show Lib.compact ys = Lib.compactUpTo ys.toArray ys.length from rfl, h.2, ← hp.mem_iff]
  constructor
  · rintro ⟨j, hj, rfl⟩
    rw [getElem!_pos ys.toArray j (by simpa using hj)]
    simp
  · intro hx
    obtain ⟨j, hj, e⟩ := List.mem_iff_getElem.1 hx
    exact ⟨j, hj, by rw [getElem!_pos ys.toArray j (by simpa using hj)]; simpa using e⟩
theorem core_sorted {p : Dp} {l : List Cut} (hl : RLog p l) {n : Nat} (hn : n < l.length) : Lib.compact ((visC l (n + 1) n ([], [])).2.mergeSort fun x y => decide (x ≤ y)) = coreD p l n := by
  obtain ⟨h1, h2⟩ := compact_sort (visC l (n + 1) n ([], [])).2
  refine sorted_ext h1 ?_ fun x => ?_
  · unfold coreD
    rw [List.pairwise_map]
    refine (List.Pairwise.filter _ List.pairwise_lt_range).imp ?_
    intro a b h
    unfold natI; omega
  · rw [h2]
    unfold coreD
    rw [List.mem_map]
    constructor
    · intro hx
      obtain ⟨j, rfl, hj⟩ := vis_rules hl (Q := fun x => ∃ j : Nat, x = j ∧ j < p.rules.length) (fun k hk => (hl k hk).1) (n + 1) n ([], []) hn (by simp) x hx
      exact ⟨j, List.mem_filter.2 ⟨List.mem_range.2 hj, by rw [List.contains_iff_mem]; exact hx⟩, rfl⟩
    · rintro ⟨j, hj, rfl⟩
      have := (List.mem_filter.1 hj).2
      rw [List.contains_iff_mem] at this
      exact this
theorem core_len {p : Dp} {l : List Cut} {n : Nat} : (coreD p l n).length ≤ p.rules.length := by
  unfold coreD
  rw [List.length_map]
  have := List.length_filter_le (fun r : Nat => (visC l (n + 1) n ([], [])).2.contains (natI r)) (List.range p.rules.length)
  simpa using this
end Go.Proofs.YtdmmegmkdhinjaaGreatDoor

namespace Go.Proofs.YtdmmegmkdhinjaaGreatDoor
open Go Go.RowKit
attribute [local go_sem] cell_grow u64_sAnd u64_sOr u64_sDiff sDiff_all zeqI zneI sAnd_bit_zero sAnd_bit_zeroN sAnd_bit_nonzero

/-- Numbers that were met, in block mb. -/
def metE (k : Nat) : Value × Value := (.int .i64 (k : Nat), .bool true)
def MetAt (w : World) (mb : Nat) (M : List Nat) : Prop := ∃ (es : Array MapEntry) (c : Nat), w.heap[mb]? = some (.map es c) ∧ es.toList.map (fun e => (e.key, e.val)) = M.map metE
theorem MetAt.same {w w' : World} {mb : Nat} {M : List Nat} (h : MetAt w mb M) (hb : ∀ o, w.heap[mb]? = some o → w'.heap[mb]? = some o) : MetAt w' mb M := by
  obtain ⟨es, c, h1, h2⟩ := h
  exact ⟨es, c, hb _ h1, h2⟩
theorem MetAt.below {w w' : World} {mb : Nat} {M : List Nat} (h : MetAt w mb M) (hb : Below w.heap.size w w') : MetAt w' mb M := h.same fun _ ho => (hb.block mb (Array.getElem?_eq_some_iff.1 ho).1).trans ho
theorem MetAt.setCell {w : World} {mb : Nat} {M : List Nat} (h : MetAt w mb M) {p : Addr} (hp : p.block ≠ mb) (v : Value) : MetAt (w.setCell p v) mb M := h.same fun _ ho => (Below.heap_setCell _ _ _ _ (Ne.symm hp)).trans ho
theorem met_keys {es : List MapEntry} {M : List Nat} (h : es.map (fun e => (e.key, e.val)) = M.map metE) {x : MapEntry} (hx : x ∈ es) : ∃ k ∈ M, x.key = .int .i64 (k : Nat) ∧ x.val = .bool true := by
  have hm : (x.key, x.val) ∈ M.map metE := by rw [← h]; exact List.mem_map.2 ⟨x, hx, rfl⟩
  obtain ⟨k, hk, e⟩ := List.mem_map.1 hm
  unfold metE at e
  simp only [Prod.mk.injEq] at e
  exact ⟨k, hk, e.1.symm, e.2.symm⟩
theorem met_find {es : List MapEntry} {M : List Nat} (h : es.map (fun e => (e.key, e.val)) = M.map metE) (k : Nat) :
    (M.contains k = true ∧ ∃ j, Instr.findNow (.int .i64) (.int .i64 (k : Nat)) es 0 = some (some (j, .bool true))) ∨ (M.contains k = false ∧ Instr.findNow (.int .i64) (.int .i64 (k : Nat)) es 0 = some none) := by
  have hks : ∀ x ∈ es, MapKept.IsKey (.int .i64) x.key := fun x hx => by obtain ⟨j, _, e, _⟩ := met_keys h hx; rw [e]; rfl
  rcases MapKept.findNow_spec (d := .int .i64) (k := .int .i64 (k : Nat)) rfl es 0 hks with ⟨h1, h2⟩ | ⟨j, e, h1, h2, h3⟩
  · refine .inr ⟨?_, h1⟩
    rw [Bool.eq_false_iff]
    intro hc
    rw [List.contains_iff_mem] at hc
    have hm : metE k ∈ es.map (fun e => (e.key, e.val)) := by rw [h]; exact List.mem_map.2 ⟨k, hc, rfl⟩
    obtain ⟨x, hx, e⟩ := List.mem_map.1 hm
    unfold metE at e
    simp only [Prod.mk.injEq] at e
    exact h2 x hx e.1
  · have hx : e ∈ es := List.mem_of_getElem? h2
    obtain ⟨q, hq, e1, e2⟩ := met_keys h hx
    rw [h3] at e1
    have hkq : k = q := by
      simp only [Value.int.injEq, true_and] at e1
      omega
    subst hkq
    exact .inl ⟨List.contains_iff_mem.2 hq, _, by rw [h1, e2]⟩
theorem run_metLook {w : World} {mb : Nat} {M : List Nat} (h : MetAt w mb M) (k : Nat) : (Instr.lookup 87 (.map (some mb)) (.int .i64 (k : Nat)) false).run Tryz.prog w = .ok (.bool (M.contains k)) w := by
  obtain ⟨es, c, h1, h2⟩ := h
  have hck := MapKept.run_checkKey (P := Tryz.prog) (w := w) (kt := 3) (d := .int .i64) (k := .int .i64 (k : Nat)) Tryz.underlying3 rfl es.isEmpty 9999
  unfold Instr.lookup
  rw [Sem.run_bind, run_underlying Tryz.underlying87 w, Result.andThen_ok]
  rcases met_find h2 k with ⟨hc, j, hf⟩ | ⟨hc, hf⟩
  · simp only [Sem.run_bind, getObj_map h1, Result.andThen_ok, Sem.run_pure, hck, MapKept.run_findKey (P := Tryz.prog) (w := w) (kt := 3) Tryz.underlying3 hf]
    rw [hc]; rfl
  · simp only [Sem.run_bind, getObj_map h1, Result.andThen_ok, Sem.run_pure, hck, MapKept.run_findKey (P := Tryz.prog) (w := w) (kt := 3) Tryz.underlying3 hf, Tryz.zeroValue4]
    rw [hc]; rfl
theorem run_metPut {w : World} {mb : Nat} {M : List Nat} (h : MetAt w mb M) (k : Nat) (hc : M.contains k = false) :
    ∃ o, (Instr.mapUpdate 87 (.map (some mb)) (.int .i64 (k : Nat)) (.bool true)).run Tryz.prog w = .ok () (w.putObj mb o) ∧ MetAt (w.putObj mb o) mb (M ++ [k]) := by
  obtain ⟨es, c, h1, h2⟩ := h
  have hlt : mb < w.heap.size := (Array.getElem?_eq_some_iff.1 h1).1
  have hck := fun e => MapKept.run_checkKey (P := Tryz.prog) (w := w) (kt := 3) (d := .int .i64) (k := .int .i64 (k : Nat)) Tryz.underlying3 rfl e 9999
  have hf : Instr.findNow (.int .i64) (.int .i64 (k : Nat)) es.toList 0 = some none := by
    rcases met_find h2 k with ⟨hc', _⟩ | ⟨_, hf⟩
    · rw [hc] at hc'; cases hc'
    · exact hf
  refine ⟨.map (es.push { key := .int .i64 (k : Nat), val := .bool true, born := c }) (c + 1), ?_, ⟨_, _, World.putObj_heap_same hlt, ?_⟩⟩
  · unfold Instr.mapUpdate
    rw [Sem.run_bind, run_underlying Tryz.underlying87 w, Result.andThen_ok]
    simp only [Sem.run_bind, getObj_map h1, Result.andThen_ok, hck, MapKept.run_findKey (P := Tryz.prog) (w := w) (kt := 3) Tryz.underlying3 hf]
    rw [setObj_map _ h1]
  · rw [Array.toList_push, List.map_append, h2, List.map_append]
    rfl
theorem KeptT.put {T : TypeId} {E : Nat → Prop} {base : Nat} {a b : World} (h : KeptT T E base a b) {D : Nat} (hD : E D) (o : Obj) : KeptT T E base a (b.putObj D o) :=
  ⟨h.os, h.tape, h.output, by simpa using h.size, fun q ob e hE hn => (World.putObj_heap_other (fun hh => by subst hh; exact hE hD)).trans (h.same q ob e hE hn)⟩
def coreF (qm qr ql qf : Nat) : Value := .func (.func 51) #[] #[.pointer (some ⟨qm, 0, none⟩), .pointer (some ⟨qr, 0, none⟩), .pointer (some ⟨ql, 0, none⟩), .pointer (some ⟨qf, 0, none⟩)]
/-- What the walk of a log needs of memory. -/
structure CoreAt (l : List Cut) (lv : Value) (qm qr ql qf mb base B : Nat) (w : World) : Prop where
  cuts : Cts w B lv l
  mm : w.heap[qm]? = some (.cells #[.map (some mb)] 87 (0, 0))
  ll : w.heap[ql]? = some (.cells #[lv] 28 (0, 0))
  ff : w.heap[qf]? = some (.cells #[coreF qm qr ql qf] 88 (0, 0))
  lem : B ≤ mb
  ler : B ≤ qr
  leb : B ≤ base
  base : base ≤ w.heap.size
/-- What was met so far. -/
structure CoreNow (qr mb base : Nat) (st : List Nat × List Int) (w : World) : Prop where
  map : MetAt w mb st.1
  rules : ∃ rv, w.heap[qr]? = some (.cells #[rv] 39 (0, 0)) ∧ w.ownsRow base 3 1 rv st.2.length (intsV st.2)
theorem CoreAt.kept {l : List Cut} {lv : Value} {qm qr ql qf mb base B : Nat} {w w' : World} {st : List Nat × List Int} (h : CoreAt l lv qm qr ql qf mb base B w) (hn : CoreNow qr mb base st w) (hk : KeptT 3 (Two qr mb) base w w') : CoreAt l lv qm qr ql qf mb base B w' := by
  obtain ⟨es, c, hm, _⟩ := hn.map
  obtain ⟨rv, hr, _⟩ := hn.rules
  have hlow : Below B w w' := hk.toBelow h.leb (Nat.le_trans h.leb h.base) (fun q hq hh => by have := h.lem; have := h.ler; rcases hh with hh | hh <;> omega)
  have key : ∀ (q : Nat) (c' : Array Value) (t : TypeId), w.heap[q]? = some (.cells c' t (0, 0)) → t ≠ 39 → t ≠ 3 → w'.heap[q]? = some (.cells c' t (0, 0)) := fun q c' t e h1 h2 =>
    hk.same q _ e (fun hh => by
      rcases hh with hh | hh
      · subst hh; rw [hr] at e; cases e; exact h1 rfl
      · subst hh; rw [hm] at e; cases e) (.inr (nT h2))
  exact ⟨h.cuts.below hlow (Nat.le_refl _), key _ _ _ h.mm (by decide) (by decide), key _ _ _ h.ll (by decide) (by decide), key _ _ _ h.ff (by decide) (by decide), h.lem, h.ler, h.leb, Nat.le_trans h.base hk.size⟩
theorem take_foldl {α σ : Type} {g : σ → α → σ} {xs : List α} {s : σ} {j : Nat} (h : j < xs.length) : (xs.take (j + 1)).foldl g s = g ((xs.take j).foldl g s) xs[j] := by
  rw [List.take_succ_eq_append_getElem h, List.foldl_append]; rfl
def corAOps : Array Oper := #[
  { dst := some 13, op := Op.load 39 (Operand.tmp 2), type := 39, pos := "search.go:54", after := #[], guard := none },
  { dst := some 14, op := Op.load 28 (Operand.tmp 3), type := 28, pos := "search.go:54", after := #[], guard := none },
  { dst := some 15, op := Op.move (Operand.tmp 0), type := 3, pos := "search.go:54", after := #[], guard := none },
  { dst := some 16, op := Op.indexAddr 28 (Operand.tmp 14) (Operand.tmp 15), type := 0, pos := "search.go:54", after := #[{ on := 1, ground := Ground.data }, { on := 2, ground := Ground.data }], guard := none },
  { dst := some 17, op := Op.fieldAddr 73 (Operand.tmp 16) 2, type := 0, pos := "search.go:54", after := #[{ on := 3, ground := Ground.data }], guard := none },
  { dst := some 18, op := Op.load 3 (Operand.tmp 17), type := 3, pos := "search.go:54", after := #[{ on := 4, ground := Ground.data }], guard := none },
  { dst := some 19, op := Op.buildSlice 39 1 #[(0, Operand.tmp 18)], type := 39, pos := "search.go:54", after := #[{ on := 5, ground := Ground.data }], guard := none },
  { dst := some 20, op := Op.call { callee := Callee.builtin Builtin.append, args := #[Operand.tmp 13, Operand.tmp 19], argTypes := #[39, 39] }, type := 39, pos := "search.go:54", after := #[{ on := 0, ground := Ground.data }, { on := 6, ground := Ground.data }], guard := none },
  { dst := none, op := Op.store 39 (Operand.tmp 2) (Operand.tmp 20), type := 0, pos := "search.go:54", after := #[{ on := 7, ground := Ground.data }, { on := 7, ground := Ground.chain }, { on := 0, ground := Ground.phase }, { on := 1, ground := Ground.phase }, { on := 2, ground := Ground.phase }, { on := 3, ground := Ground.phase }, { on := 4, ground := Ground.phase }, { on := 5, ground := Ground.phase }, { on := 6, ground := Ground.phase }, { on := 7, ground := Ground.phase }], guard := none }]
set_option maxRecDepth 100000 in
set_option maxHeartbeats 4000000 in
theorem visit_any (p : Dp) (l : List Cut) (hl : RLog p l) (hsm : l.length ≤ 1000000) (lv : Value) (qm qr ql qf mb base B : Nat) : ∀ (f k : Nat) (st : List Nat × List Int) (w : World), k < f → k < l.length → CS l.length st → CoreAt l lv qm qr ql qf mb base B w → CoreNow qr mb base st w →
    Calls Tryz.prog 51 #[.int .i64 (k : Nat), .pointer (some ⟨qm, 0, none⟩), .pointer (some ⟨qr, 0, none⟩), .pointer (some ⟨ql, 0, none⟩), .pointer (some ⟨qf, 0, none⟩)] w fun e w' =>
      (∃ rv, e = .returned rv) ∧ CoreNow qr mb base (visC l f k st) w' ∧ KeptT 3 (Two qr mb) base w w' := by
  intro f
  induction f with
  | zero => intro k st w h; omega
  | succ f ih =>
  intro k st w hk hkl hcs hat hnow
  have HIH := Lib.hid ih; have HL := Lib.hid hl; have HAT := Lib.hid hat; have HNOW := Lib.hid hnow; have HCS := Lib.hid hcs
  clear ih hl
  have hll := hat.cuts.len
  obtain ⟨la, lc, rfl⟩ := hat.cuts.slice
  have m0 : w.cell? ⟨qm, 0, none⟩ = some (.map (some mb)) := by rw [cell_of_row _ _ _ _ _ _ hat.mm]; rfl
  have hlk := run_metLook hnow.map k
  clear hat hcs
  cases hm : st.1.contains k
  case true =>
    rw [hm] at hlk
    have HRES : Hid (visC l (f + 1) k st = st) := Lib.hid (by unfold visC; rw [if_pos hm])
    clear hm hnow
    go_enter Tryz.func51, Tryz.ntmps51
    go_wp2
    refine bodyPost_ret (results_none rfl _ _ _) rfl ⟨⟨_, rfl⟩, by rw [HRES.out]; exact HNOW.out, KeptT.refl _⟩
  case false =>
    rw [hm] at hlk
    obtain ⟨o, hput, hmet⟩ := run_metPut hnow.map k hm
    obtain ⟨rv, hrk, hown⟩ := hnow.rules
    obtain ⟨es0, c0, hm0, _⟩ := hnow.map
    have hne : qr ≠ mb := fun hh => by subst hh; rw [hrk] at hm0; cases hm0
    have hr8 : (w.putObj mb o).heap[qr]? = some (.cells #[rv] 39 (0, 0)) := (World.putObj_heap_other (by omega)).trans hrk
    have ho8 : (w.putObj mb o).ownsRow base 3 1 rv st.2.length (intsV st.2) := own_type hown fun q c e => (World.putObj_heap_other (fun hh => by subst hh; rw [hm0] at e; cases e)).trans e
    have hk8 : KeptT 3 (Two qr mb) base w (w.putObj mb o) := (KeptT.refl w).put (.inr rfl) o
    have hat8 := HAT.out.kept HNOW.out hk8
    have hbw8 : Below B w (w.putObj mb o) := hk8.toBelow HAT.out.leb (Nat.le_trans HAT.out.leb HAT.out.base) (fun q hq hh => by have := HAT.out.lem; have := HAT.out.ler; rcases hh with hh | hh <;> omega)
    obtain ⟨W8, hW8⟩ : ∃ W8, W8 = w.putObj mb o := ⟨_, rfl⟩
    rw [← hW8] at hput hmet hr8 ho8 hk8 hat8 hbw8
    obtain ⟨lb, lo, yv, rfl, hlb, hyv, l0, l1, l2, l3⟩ := hat8.cuts.cells hkl
    obtain ⟨ya, yc, rfl⟩ := hyv.slice
    obtain ⟨ra, rc, rfl⟩ := own_form ho8
    obtain ⟨rr, hrr⟩ : ∃ rr, rr = (cget l k).rule := ⟨_, rfl⟩
    rw [← hrr] at l2
    have q0 : W8.cell? ⟨ql, 0, none⟩ = some (.slice (some ⟨lb, lo, none⟩) l.length lc) := by rw [cell_of_row _ _ _ _ _ _ hat8.ll]; rfl
    have hsl : ∀ Y, KeptT 3 (Two qr mb) base w Y → Y.cell? ⟨ql, 0, none⟩ = some (.slice (some ⟨lb, lo, none⟩) l.length lc) ∧ Y.cell? ⟨lb, lo + k * 4 + 2, none⟩ = some (.int .i64 rr) := fun Y hY => by
      have hatY := HAT.out.kept HNOW.out hY
      have hb : Below B w Y := hY.toBelow HAT.out.leb (Nat.le_trans HAT.out.leb HAT.out.base) (fun q hq hh => by have := HAT.out.lem; have := HAT.out.ler; rcases hh with hh | hh <;> omega)
      exact ⟨by rw [cell_of_row _ _ _ _ _ _ hatY.ll]; rfl, ((hb.cell (p := ⟨lb, lo + k * 4 + 2, none⟩) hlb).trans ((hbw8.cell (p := ⟨lb, lo + k * 4 + 2, none⟩) hlb).symm.trans l2))⟩
    have hs : ∀ Y, Below W8.heap.size W8 Y → Y.cell? ⟨ql, 0, none⟩ = some (.slice (some ⟨lb, lo, none⟩) l.length lc) ∧ Y.cell? ⟨lb, lo + k * 4 + 2, none⟩ = some (.int .i64 rr) := fun Y hY => hsl Y (hk8.below hY)
    have hcle := HCS.out.le
    have hklI : ((k : Nat) : Int) < ((l.length : Nat) : Int) := by omega
    have hvis : visC l (f + 1) k st = (cget l k).why.foldl (fun s x => visC l f x.toNat s) (st.1 ++ [k], st.2 ++ [rr]) := by rw [hrr]; show (if st.1.contains k = true then _ else _) = _; rw [if_neg (by rw [hm]; decide)]
    have hcs1 := HCS.out.step hkl hm rr
    have hbB8 : base ≤ W8.heap.size := hat8.base
    have HSL := Lib.hid hsl; have HS := Lib.hid hs; have HMET := Lib.hid hmet; have HRK := Lib.hid hr8; have HOWN := Lib.hid ho8; have HK8 := Lib.hid hk8; have HBW8 := Lib.hid hbw8; have HNE := Lib.hid hne; have HVIS := Lib.hid hvis; have HCS1 := Lib.hid hcs1
    clear hsl hs hmet hr8 ho8 hk8 hbw8 hne hrk hown hm0 hm hnow hat8 hyv l0 l1 l3 l2 hrr hvis hcs1
    subst hW8
    clear q0
    go_enter Tryz.func51, Tryz.ntmps51
    go_wp2_with fail
    obtain ⟨W8, hW8⟩ : ∃ W8, W8 = w.putObj mb o := ⟨_, rfl⟩
    rw [← hW8] at HS HMET HRK HOWN HK8 HBW8 hbB8 ⊢
    clear hW8 hput hlk m0
    apply wp_mid (R := fun (kb g cp : Nat) Y => CoreNow qr mb base (st.1 ++ [k], st.2 ++ [rr]) Y ∧ KeptT 3 (Two qr mb) base w Y)
    case h =>
      refine wp_region_held_n (S := fun Y => Y.cell? ⟨ql, 0, none⟩ = some (.slice (some ⟨lb, lo, none⟩) l.length lc) ∧ Y.cell? ⟨lb, lo + k * 4 + 2, none⟩ = some (.int .i64 rr)) (by kernel_rfl) (HS.out _ (Below.drewn (Below.refl _ _))) (fun hHeld => ?_)
      change wpAnyH _ _ corAOps _ _ _ _ _ _
      refine abs_anyHS (fun Y => Below W8.heap.size W8 Y) (Below.drewn (Below.refl _ _)) hHeld ?_
      clear hHeld
      rintro w8 hb8 hHeld
      have HBY := Lib.hid hb8
      clear hb8
      refine wpAnyH_take (i := 1) (oi := { dst := some 14, op := Op.load 28 (Operand.tmp 3), type := 28, pos := "search.go:54", after := #[], guard := none }) (v := ?_) rfl (by kernel_rfl) (by kernel_rfl) (by kernel_rfl) (fun _ _ _ h => h) (Or.inl ⟨by kernel_rfl, ?_⟩) hHeld ?_
      rotate_left
      · intro w hSw
        try dsimp only at hSw
        obtain ⟨hs0, hs1⟩ := hSw
        go_simp
        try with_reducible rfl
      try simp only [Act.put, List.setIfInBounds_toArray, List.set_cons_zero, List.set_cons_succ]
      refine wpAnyH_take (i := 2) (oi := { dst := some 15, op := Op.move (Operand.tmp 0), type := 3, pos := "search.go:54", after := #[], guard := none }) (v := ?_) rfl (by kernel_rfl) (by kernel_rfl) (by kernel_rfl) (fun _ _ _ h => h) (Or.inl ⟨by kernel_rfl, ?_⟩) hHeld ?_
      rotate_left
      · intro w hSw
        try dsimp only at hSw
        obtain ⟨hs0, hs1⟩ := hSw
        go_simp
        try with_reducible rfl
      try simp only [Act.put, List.setIfInBounds_toArray, List.set_cons_zero, List.set_cons_succ]
      refine wpAnyH_take (i := 3) (oi := { dst := some 16, op := Op.indexAddr 28 (Operand.tmp 14) (Operand.tmp 15), type := 0, pos := "search.go:54", after := #[{ on := 1, ground := Ground.data }, { on := 2, ground := Ground.data }], guard := none }) (v := ?_) rfl (by kernel_rfl) (by kernel_rfl) (by kernel_rfl) (fun _ _ _ h => h) (Or.inl ⟨by kernel_rfl, ?_⟩) hHeld ?_
      rotate_left
      · intro w hSw
        try dsimp only at hSw
        obtain ⟨hs0, hs1⟩ := hSw
        go_simp
        try with_reducible rfl
      try simp only [Act.put, List.setIfInBounds_toArray, List.set_cons_zero, List.set_cons_succ]
      refine wpAnyH_take (i := 4) (oi := { dst := some 17, op := Op.fieldAddr 73 (Operand.tmp 16) 2, type := 0, pos := "search.go:54", after := #[{ on := 3, ground := Ground.data }], guard := none }) (v := ?_) rfl (by kernel_rfl) (by kernel_rfl) (by kernel_rfl) (fun _ _ _ h => h) (Or.inl ⟨by kernel_rfl, ?_⟩) hHeld ?_
      rotate_left
      · intro w hSw
        try dsimp only at hSw
        obtain ⟨hs0, hs1⟩ := hSw
        go_simp
        try with_reducible rfl
      try simp only [Act.put, List.setIfInBounds_toArray, List.set_cons_zero, List.set_cons_succ]
      refine wpAnyH_take (i := 5) (oi := { dst := some 18, op := Op.load 3 (Operand.tmp 17), type := 3, pos := "search.go:54", after := #[{ on := 4, ground := Ground.data }], guard := none }) (v := ?_) rfl (by kernel_rfl) (by kernel_rfl) (by kernel_rfl) (fun _ _ _ h => h) (Or.inl ⟨by kernel_rfl, ?_⟩) hHeld ?_
      rotate_left
      · intro w hSw
        try dsimp only at hSw
        obtain ⟨hs0, hs1⟩ := hSw
        go_simp
        try with_reducible rfl
      try simp only [Act.put, List.setIfInBounds_toArray, List.set_cons_zero, List.set_cons_succ]
      refine wpAnyH_ready (rs := [0, 6]) (by kernel_rfl) (by simp) ?_
      refine AllReadyH.cons (o := { dst := some 13, op := Op.load 39 (Operand.tmp 2), type := 39, pos := "search.go:54", after := #[], guard := none }) rfl (fun K hK => ?_) (AllReadyH.cons (o := { dst := some 19, op := Op.buildSlice 39 1 #[(0, Operand.tmp 18)], type := 39, pos := "search.go:54", after := #[{ on := 5, ground := Ground.data }], guard := none }) rfl (fun K hK => ?_) AllReadyH.nil)
      · have x10 : w8.cell? ⟨qr, 0, none⟩ = some (.slice ra st.2.length rc) := by rw [cell_of_row _ _ _ _ _ _ (heap_later HRK.out HBY.out (Array.getElem?_eq_some_iff.1 HRK.out).1)]; rfl
        go_simp
        refine hK.out _ _ (hHeld) (fun hHeld => ?_)
        clear hK K
        try simp only [Act.put, List.setIfInBounds_toArray, List.set_cons_zero, List.set_cons_succ]
        clear x10
        refine wpAnyH_ready (rs := [6]) (by kernel_rfl) (by simp) ?_
        refine AllReadyH.cons (o := { dst := some 19, op := Op.buildSlice 39 1 #[(0, Operand.tmp 18)], type := 39, pos := "search.go:54", after := #[{ on := 5, ground := Ground.data }], guard := none }) rfl (fun K hK => ?_) AllReadyH.nil
        go_simp
        obtain ⟨kb, hkb⟩ : ∃ q, q = w8.heap.size := ⟨_, rfl⟩
        have hnx := Below.new1 w8 (.cells #[.int .i64 rr] 3)
        have hkx := heap_new0 w8 (.cells #[.int .i64 rr] 3)
        have hbx := HBY.out.trans (hnx.mono HBY.out.size)
        try rw [← hkb]
        rw [← hkb] at hkx
        clear hkb hnx HBY
        refine hK.out _ _ (HS.out _ hbx) (fun hHeld => ?_)
        clear hK K
        try simp only [Act.put, List.setIfInBounds_toArray, List.set_cons_zero, List.set_cons_succ]
        obtain ⟨X1, hZZ⟩ : ∃ Z, Z = w8.alloc (.cells #[.int .i64 rr] 3) := ⟨_, rfl⟩
        rw [← hZZ] at hkx hbx hHeld ⊢
        have HKB := Lib.hid hkx; have HBY := Lib.hid hbx
        clear hkx hbx hZZ
        refine wpAnyH_ready (rs := [7]) (by kernel_rfl) (by simp) ?_
        refine AllReadyH.cons (o := { dst := some 20, op := Op.call { callee := Callee.builtin Builtin.append, args := #[Operand.tmp 13, Operand.tmp 19], argTypes := #[39, 39] }, type := 39, pos := "search.go:54", after := #[{ on := 0, ground := Ground.data }, { on := 6, ground := Ground.data }], guard := none }) rfl (fun K hK => ?_) AllReadyH.nil
        have hcs1 := own_ck HOWN.out (CK.below HBY.out)
        have hr1 := heap_later HRK.out HBY.out (Array.getElem?_eq_some_iff.1 HRK.out).1
        obtain ⟨i0, hin, hz0, hz1, hz2⟩ := info_parts info3
        refine wp_append_own X1 _ _ 39 rfl base 3 i0 (.int .i64 0) 1 8 Tryz.underlying39 hin hz0 hz1 hz2 rfl (by decide) (.slice ra st.2.length rc) st.2.length (intsV st.2) rfl hcs1 ⟨kb, 0, none⟩ 1 1 (intsV [rr]) rfl rfl ?_ ?_ (by unfold maxLen; omega) (by omega) (by have := HBY.out.size; omega) ?_
        · intro q u hq
          match q, hq with
          | 0, hq => cases hq; rw [Addr.add_lit]; exact cell_of_one HKB.out
        · exact ints_one _
        intro v' X2 hown2 hgrow2 _
        obtain ⟨g5, cp, rfl⟩ := Slice.own_succ hown2
        rw [intsV_append] at hown2
        have hr2 : X2.heap[qr]? = some (.cells #[.slice ra st.2.length rc] 39 (0, 0)) := (hgrow2.block _ (Array.getElem?_eq_some_iff.1 hr1).1 (fun hh => own_apart hcs1 hr1 (by decide) _ hh.symm rfl)).trans hr1
        have hm2 : MetAt X2 mb (st.1 ++ [k]) := by
          obtain ⟨es, c, h1, h2⟩ := HMET.out.below HBY.out
          exact ⟨es, c, (hgrow2.block _ (Array.getElem?_eq_some_iff.1 h1).1 (fun hh => own_other hcs1 h1 (fun _ _ h => by cases h) _ hh.symm rfl)).trans h1, h2⟩
        have hk2 := (HK8.out.below HBY.out).grown hcs1 hgrow2
        have HR2 := Lib.hid hr2; have HM2 := Lib.hid hm2; have HK2 := Lib.hid hk2; have HO2 := Lib.hid hown2
        have hs2 := HSL.out X2 hk2
        have hs3 := fun u => HSL.out (X2.setCell ⟨qr, 0, none⟩ u) (hk2.setCell (.inl rfl) u)
        have c2 : X2.cell? ⟨qr, 0, none⟩ = some (.slice ra st.2.length rc) := by rw [cell_of_row _ _ _ _ _ _ hr2]; rfl
        have f2 : X2.frozen? ⟨qr, 0, none⟩ = false := by simp [World.frozen?, hr2]
        have HS3 := Lib.hid hs3
        clear hown2 hgrow2 hcs1 hr1 hr2 hm2 hk2 hHeld hs3
        refine hK.out _ _ (hs2) (fun hHeld => ?_)
        clear hK K
        try simp only [Act.put, List.setIfInBounds_toArray, List.set_cons_zero, List.set_cons_succ]
        refine wpAnyH_ready (rs := [8]) (by kernel_rfl) (by simp) ?_
        refine AllReadyH.cons (o := { dst := none, op := Op.store 39 (Operand.tmp 2) (Operand.tmp 20), type := 0, pos := "search.go:54", after := #[{ on := 7, ground := Ground.data }, { on := 7, ground := Ground.chain }, { on := 0, ground := Ground.phase }, { on := 1, ground := Ground.phase }, { on := 2, ground := Ground.phase }, { on := 3, ground := Ground.phase }, { on := 4, ground := Ground.phase }, { on := 5, ground := Ground.phase }, { on := 6, ground := Ground.phase }, { on := 7, ground := Ground.phase }], guard := none }) rfl (fun K hK => ?_) AllReadyH.nil
        go_simp
        refine hK.out _ _ (HS3.out _) (fun hHeld => ?_)
        clear hK K
        try simp only [Act.put, List.setIfInBounds_toArray, List.set_cons_zero, List.set_cons_succ]
        refine wpAnyH_done (by kernel_rfl) ?_ _
        dsimp only [onlyN]
        exact ⟨kb, g5, cp, rfl, ⟨HM2.out.setCell (by exact HNE.out) _, _, set_row HR2.out, by rw [List.length_append]; exact own_setF HO2.out HR2.out (by decide)⟩, HK2.out.setCell (.inl rfl) _⟩
      · go_simp
        obtain ⟨kb, hkb⟩ : ∃ q, q = w8.heap.size := ⟨_, rfl⟩
        have hnx := Below.new1 w8 (.cells #[.int .i64 rr] 3)
        have hkx := heap_new0 w8 (.cells #[.int .i64 rr] 3)
        have hbx := HBY.out.trans (hnx.mono HBY.out.size)
        try rw [← hkb]
        rw [← hkb] at hkx
        clear hkb hnx HBY
        refine hK.out _ _ (HS.out _ hbx) (fun hHeld => ?_)
        clear hK K
        try simp only [Act.put, List.setIfInBounds_toArray, List.set_cons_zero, List.set_cons_succ]
        obtain ⟨X1, hZZ⟩ : ∃ Z, Z = w8.alloc (.cells #[.int .i64 rr] 3) := ⟨_, rfl⟩
        rw [← hZZ] at hkx hbx hHeld ⊢
        have HKB := Lib.hid hkx; have HBY := Lib.hid hbx
        clear hkx hbx hZZ
        refine wpAnyH_ready (rs := [0]) (by kernel_rfl) (by simp) ?_
        refine AllReadyH.cons (o := { dst := some 13, op := Op.load 39 (Operand.tmp 2), type := 39, pos := "search.go:54", after := #[], guard := none }) rfl (fun K hK => ?_) AllReadyH.nil
        have x10 : X1.cell? ⟨qr, 0, none⟩ = some (.slice ra st.2.length rc) := by rw [cell_of_row _ _ _ _ _ _ (heap_later HRK.out HBY.out (Array.getElem?_eq_some_iff.1 HRK.out).1)]; rfl
        go_simp
        refine hK.out _ _ (hHeld) (fun hHeld => ?_)
        clear hK K
        try simp only [Act.put, List.setIfInBounds_toArray, List.set_cons_zero, List.set_cons_succ]
        clear x10
        refine wpAnyH_ready (rs := [7]) (by kernel_rfl) (by simp) ?_
        refine AllReadyH.cons (o := { dst := some 20, op := Op.call { callee := Callee.builtin Builtin.append, args := #[Operand.tmp 13, Operand.tmp 19], argTypes := #[39, 39] }, type := 39, pos := "search.go:54", after := #[{ on := 0, ground := Ground.data }, { on := 6, ground := Ground.data }], guard := none }) rfl (fun K hK => ?_) AllReadyH.nil
        have hcs1 := own_ck HOWN.out (CK.below HBY.out)
        have hr1 := heap_later HRK.out HBY.out (Array.getElem?_eq_some_iff.1 HRK.out).1
        obtain ⟨i0, hin, hz0, hz1, hz2⟩ := info_parts info3
        refine wp_append_own X1 _ _ 39 rfl base 3 i0 (.int .i64 0) 1 8 Tryz.underlying39 hin hz0 hz1 hz2 rfl (by decide) (.slice ra st.2.length rc) st.2.length (intsV st.2) rfl hcs1 ⟨kb, 0, none⟩ 1 1 (intsV [rr]) rfl rfl ?_ ?_ (by unfold maxLen; omega) (by omega) (by have := HBY.out.size; omega) ?_
        · intro q u hq
          match q, hq with
          | 0, hq => cases hq; rw [Addr.add_lit]; exact cell_of_one HKB.out
        · exact ints_one _
        intro v' X2 hown2 hgrow2 _
        obtain ⟨g5, cp, rfl⟩ := Slice.own_succ hown2
        rw [intsV_append] at hown2
        have hr2 : X2.heap[qr]? = some (.cells #[.slice ra st.2.length rc] 39 (0, 0)) := (hgrow2.block _ (Array.getElem?_eq_some_iff.1 hr1).1 (fun hh => own_apart hcs1 hr1 (by decide) _ hh.symm rfl)).trans hr1
        have hm2 : MetAt X2 mb (st.1 ++ [k]) := by
          obtain ⟨es, c, h1, h2⟩ := HMET.out.below HBY.out
          exact ⟨es, c, (hgrow2.block _ (Array.getElem?_eq_some_iff.1 h1).1 (fun hh => own_other hcs1 h1 (fun _ _ h => by cases h) _ hh.symm rfl)).trans h1, h2⟩
        have hk2 := (HK8.out.below HBY.out).grown hcs1 hgrow2
        have HR2 := Lib.hid hr2; have HM2 := Lib.hid hm2; have HK2 := Lib.hid hk2; have HO2 := Lib.hid hown2
        have hs2 := HSL.out X2 hk2
        have hs3 := fun u => HSL.out (X2.setCell ⟨qr, 0, none⟩ u) (hk2.setCell (.inl rfl) u)
        have c2 : X2.cell? ⟨qr, 0, none⟩ = some (.slice ra st.2.length rc) := by rw [cell_of_row _ _ _ _ _ _ hr2]; rfl
        have f2 : X2.frozen? ⟨qr, 0, none⟩ = false := by simp [World.frozen?, hr2]
        have HS3 := Lib.hid hs3
        clear hown2 hgrow2 hcs1 hr1 hr2 hm2 hk2 hHeld hs3
        refine hK.out _ _ (hs2) (fun hHeld => ?_)
        clear hK K
        try simp only [Act.put, List.setIfInBounds_toArray, List.set_cons_zero, List.set_cons_succ]
        refine wpAnyH_ready (rs := [8]) (by kernel_rfl) (by simp) ?_
        refine AllReadyH.cons (o := { dst := none, op := Op.store 39 (Operand.tmp 2) (Operand.tmp 20), type := 0, pos := "search.go:54", after := #[{ on := 7, ground := Ground.data }, { on := 7, ground := Ground.chain }, { on := 0, ground := Ground.phase }, { on := 1, ground := Ground.phase }, { on := 2, ground := Ground.phase }, { on := 3, ground := Ground.phase }, { on := 4, ground := Ground.phase }, { on := 5, ground := Ground.phase }, { on := 6, ground := Ground.phase }, { on := 7, ground := Ground.phase }], guard := none }) rfl (fun K hK => ?_) AllReadyH.nil
        go_simp
        refine hK.out _ _ (HS3.out _) (fun hHeld => ?_)
        clear hK K
        try simp only [Act.put, List.setIfInBounds_toArray, List.set_cons_zero, List.set_cons_succ]
        refine wpAnyH_done (by kernel_rfl) ?_ _
        dsimp only [onlyN]
        exact ⟨kb, g5, cp, rfl, ⟨HM2.out.setCell (by exact HNE.out) _, _, set_row HR2.out, by rw [List.length_append]; exact own_setF HO2.out HR2.out (by decide)⟩, HK2.out.setCell (.inl rfl) _⟩
    case hq =>
      rintro kb g cp Y ⟨hnowY, hkY⟩
      have hatY := HAT.out.kept HNOW.out hkY
      obtain ⟨lb', lo', yv, hae, hlb', hyv, l0, l1, l2, l3⟩ := hatY.cuts.cells hkl
      cases hae
      obtain ⟨ya, yc, rfl⟩ := hyv.slice
      have q0 : Y.cell? ⟨ql, 0, none⟩ = some (.slice (some ⟨lb, lo, none⟩) l.length lc) := by rw [cell_of_row _ _ _ _ _ _ hatY.ll]; rfl
      have hbY : Below B w Y := hkY.toBelow HAT.out.leb (Nat.le_trans HAT.out.leb HAT.out.base) (fun q hq hh => by have := HAT.out.lem; have := HAT.out.ler; rcases hh with hh | hh <;> omega)
      have l3w : w.cell? ⟨lb, lo + k * 4 + 3, none⟩ = some (.slice ya (cget l k).why.length yc) := ((hbY.cell (p := ⟨lb, lo + k * 4 + 3, none⟩) hlb).symm).trans l3
      have HNY := Lib.hid hnowY; have HKY := Lib.hid hkY; have L3W := Lib.hid l3w
      clear hbY l3w
      clear hnowY hkY hatY hyv l0 l1 l2
      go_wp2_with fail
      go_loopw [7, 27] (fun xv iv wr => ∃ j : Nat, j ≤ (cget l k).why.length ∧ iv = .int .i64 j ∧ CoreNow qr mb base (((cget l k).why.take j).foldl (fun s x => visC l f x.toNat s) (st.1 ++ [k], st.2 ++ [rr])) wr ∧ KeptT 3 (Two qr mb) base w wr) (fun _ iv _ => (cget l k).why.length - (intOf iv).toNat)
      case atStart => exact ⟨0, Nat.zero_le _, rfl, HNY.out, HKY.out⟩
      case round =>
        obtain ⟨j, hj, rfl, hnj, hkj⟩ := hrel
        have HNJ := Lib.hid hnj; have HKJ := Lib.hid hkj
        clear hnj hkj HNY HKY
        by_cases hlt : j < (cget l k).why.length
        · obtain ⟨x, hx, hxk⟩ := ((HL.out k hkl).2).get j hlt
          have hatj := HAT.out.kept HNOW.out HKJ.out
          obtain ⟨lb', lo', yv', hae, hlb2, hyv2, -, -, -, l32⟩ := hatj.cuts.cells hkl
          cases hae
          have hyy : yv' = .slice ya (cget l k).why.length yc := by
            have hb : Below B w wr := HKJ.out.toBelow HAT.out.leb (Nat.le_trans HAT.out.leb HAT.out.base) (fun q hq hh => by have := HAT.out.lem; have := HAT.out.ler; rcases hh with hh | hh <;> omega)
            have h := (hb.cell (p := ⟨lb, lo + k * 4 + 3, none⟩) hlb).trans L3W.out
            rw [l32] at h
            exact Option.some.inj h
          subst hyy
          obtain ⟨_, a', c', hae, hcc, _, hir⟩ := hyv2
          cases hae
          obtain ⟨yb, yo, rfl, hyb, hyc⟩ := hir (by omega)
          have y0 : wr.cell? ⟨yb, yo + j, none⟩ = some (.int .i64 (x : Nat)) := by rw [← hx]; exact hyc j (by omega)
          have f0 : wr.cell? ⟨qf, 0, none⟩ = some (coreF qm qr ql qf) := by rw [cell_of_row _ _ _ _ _ _ hatj.ff]; rfl
          have htk : ((cget l k).why.take (j + 1)).foldl (fun s x => visC l f x.toNat s) (st.1 ++ [k], st.2 ++ [rr]) = visC l f x (((cget l k).why.take j).foldl (fun s x => visC l f x.toNat s) (st.1 ++ [k], st.2 ++ [rr])) := by
            rw [take_foldl hlt]
            rw [show (cget l k).why[j] = (x : Int) by rw [← hx]; unfold iget; rw [List.getElem?_eq_getElem hlt]; rfl]
            rfl
          have hcsj : CS l.length (((cget l k).why.take j).foldl (fun s x => visC l f x.toNat s) (st.1 ++ [k], st.2 ++ [rr])) := foldl_inv (P := CS l.length) _ _ HCS1.out fun u hu s hs => by
            obtain ⟨q, rfl, hq⟩ := (HL.out k hkl).2 u (List.mem_of_mem_take hu)
            exact CS.vis HL.out f _ s (by simp; omega) hs
          have HI := Lib.hid (HIH.out x _ wr (by omega) (by omega) hcsj hatj HNJ.out)
          have HTK := Lib.hid htk
          unfold coreF at f0
          clear htk hcsj hatj hir hyc l32 hx
          go_wp2_with fail
          refine HI.out.mono ?_
          rintro e w9 ⟨⟨rv9, rfl⟩, hn9, hk9⟩
          have HN9 := Lib.hid hn9; have HK9 := Lib.hid (HKJ.out.trans hk9)
          clear hn9 hk9
          go_wp2
          go_roundw
          case rel => exact ⟨j + 1, by omega, by go_num, by rw [HTK.out]; exact HN9.out, HK9.out⟩
          case measure => simp [intOf]; omega
        · have hjl : j = (cget l k).why.length := by omega
          subst hjl
          go_wp2
          refine bodyPost_end (v := .tuple #[]) (results_none rfl _ _ _) rfl ⟨⟨_, rfl⟩, ?_, HKJ.out⟩
          rw [HVIS.out]
          have h := HNJ.out
          rw [List.take_length] at h
          exact h
end Go.Proofs.YtdmmegmkdhinjaaGreatDoor

namespace Go.Proofs
open Go.Shelf
def Tryz.sortI_ren : Go.Shelf.Ren := ⟨fun | 189 => 52 | 125 => 66 | 257 => 86 | 128 => 103 | 129 => 104 | 294 => 117 | 295 => 118 | 296 => 119 | 297 => 120 | 298 => 121 | 299 => 122 | 216 => 123 | 300 => 124 | 301 => 125 | 328 => 136 | 329 => 128 | 330 => 129 | 331 => 137 | 332 => 138 | 215 => 105 | 343 => 140 | n => n, fun | 28 => 39 | 3 => 3 | 46 => 83 | 0 => 0 | 51 => 135 | 53 => 56 | 4 => 4 | 183 => 128 | 182 => 127 | 131 => 132 | 5 => 5 | 9 => 9 | 218 => 151 | 222 => 155 | 228 => 168 | 229 => 169 | n => n, fun | n => n⟩
theorem Tryz.sortI : Go.Proofs.Lays.n189 Tryz.prog Tryz.sortI_ren := {
  mixed := by kernel_rfl
  f125 := Tryz.func66.trans (congrArg some (by kernel_rfl))
  f128 := Tryz.func103.trans (congrArg some (by kernel_rfl))
  f129 := Tryz.func104.trans (congrArg some (by kernel_rfl))
  f189 := Tryz.func52.trans (congrArg some (by kernel_rfl))
  f215 := Tryz.func105.trans (congrArg some (by kernel_rfl))
  f216 := Tryz.func123.trans (congrArg some (by kernel_rfl))
  f257 := Tryz.func86.trans (congrArg some (by kernel_rfl))
  f294 := Tryz.func117.trans (congrArg some (by kernel_rfl))
  f295 := Tryz.func118.trans (congrArg some (by kernel_rfl))
  f296 := Tryz.func119.trans (congrArg some (by kernel_rfl))
  f297 := Tryz.func120.trans (congrArg some (by kernel_rfl))
  f298 := Tryz.func121.trans (congrArg some (by kernel_rfl))
  f299 := Tryz.func122.trans (congrArg some (by kernel_rfl))
  f300 := Tryz.func124.trans (congrArg some (by kernel_rfl))
  f301 := Tryz.func125.trans (congrArg some (by kernel_rfl))
  f328 := Tryz.func136.trans (congrArg some (by kernel_rfl))
  f329 := Tryz.func128.trans (congrArg some (by kernel_rfl))
  f330 := Tryz.func129.trans (congrArg some (by kernel_rfl))
  f331 := Tryz.func137.trans (congrArg some (by kernel_rfl))
  f332 := Tryz.func138.trans (congrArg some (by kernel_rfl))
  f343 := Tryz.func140.trans (congrArg some (by kernel_rfl))
  t0 := Tryz.underlying0
  a0 := Tryz.isAgg0
  z0 := Tryz.sizeOf0
  v0 := Tryz.zeroValue0
  t3 := Tryz.underlying3
  a3 := Tryz.isAgg3
  z3 := Tryz.sizeOf3
  v3 := Tryz.zeroValue3
  t4 := Tryz.underlying4
  a4 := Tryz.isAgg4
  z4 := Tryz.sizeOf4
  v4 := Tryz.zeroValue4
  t5 := Tryz.underlying5
  a5 := Tryz.isAgg5
  z5 := Tryz.sizeOf5
  v5 := Tryz.zeroValue5
  t9 := Tryz.underlying9
  a9 := Tryz.isAgg9
  z9 := Tryz.sizeOf9
  v9 := Tryz.zeroValue9
  t28 := Tryz.underlying39
  a28 := Tryz.isAgg39
  z28 := Tryz.sizeOf39
  v28 := Tryz.zeroValue39
  t46 := Tryz.underlying83
  a46 := Tryz.isAgg83
  z46 := Tryz.sizeOf83
  v46 := Tryz.zeroValue83
  t51 := Tryz.underlying135
  a51 := Tryz.isAgg135
  z51 := Tryz.sizeOf135
  v51 := Tryz.zeroValue135
  t53 := Tryz.underlying56
  a53 := Tryz.isAgg56
  z53 := Tryz.sizeOf56
  v53 := Tryz.zeroValue56
  t131 := Tryz.underlying132
  a131 := Tryz.isAgg132
  z131 := Tryz.sizeOf132
  v131 := Tryz.zeroValue132
  t182 := Tryz.underlying127
  a182 := Tryz.isAgg127
  z182 := Tryz.sizeOf127
  v182 := Tryz.zeroValue127
  t183 := Tryz.underlying128
  a183 := Tryz.isAgg128
  z183 := Tryz.sizeOf128
  v183 := Tryz.zeroValue128
  t218 := Tryz.underlying151
  a218 := Tryz.isAgg151
  z218 := Tryz.sizeOf151
  v218 := Tryz.zeroValue151
  t222 := Tryz.underlying155
  a222 := Tryz.isAgg155
  z222 := Tryz.sizeOf155
  v222 := Tryz.zeroValue155
  t228 := Tryz.underlying168
  a228 := Tryz.isAgg168
  z228 := Tryz.sizeOf168
  v228 := Tryz.zeroValue168
  t229 := Tryz.underlying169
  a229 := Tryz.isAgg169
  z229 := Tryz.sizeOf169
  v229 := Tryz.zeroValue169 }
def Tryz.compI_ren : Go.Shelf.Ren := ⟨fun | 20 => 53 | n => n, fun | 22 => 39 | 3 => 3 | 4 => 4 | 0 => 0 | n => n, fun | n => n⟩
theorem Tryz.compI : Go.Proofs.Lays2.n20 Tryz.prog Tryz.compI_ren := {
  mixed := by kernel_rfl
  f20 := Tryz.func53.trans (congrArg some (by kernel_rfl))
  t0 := Tryz.underlying0
  a0 := Tryz.isAgg0
  z0 := Tryz.sizeOf0
  v0 := Tryz.zeroValue0
  t3 := Tryz.underlying3
  a3 := Tryz.isAgg3
  z3 := Tryz.sizeOf3
  v3 := Tryz.zeroValue3
  t4 := Tryz.underlying4
  a4 := Tryz.isAgg4
  z4 := Tryz.sizeOf4
  v4 := Tryz.zeroValue4
  t22 := Tryz.underlying39
  a22 := Tryz.isAgg39
  z22 := Tryz.sizeOf39
  v22 := Tryz.zeroValue39
  i3 := by kernel_rfl }
end Go.Proofs

namespace Go.Proofs.YtdmmegmkdhinjaaGreatDoor
open Go Go.RowKit
attribute [local go_sem] cell_grow u64_sAnd u64_sOr u64_sDiff sDiff_all zeqI zneI sAnd_bit_zero sAnd_bit_zeroN sAnd_bit_nonzero

theorem ints_enc (xs : List Int) : intsV xs = xs.map (Value.int .i64) := rfl
theorem sort_own {w : World} {base g n cap : Nat} {zs : List Int} (h : w.ownsRow base 3 1 (.slice (some ⟨g, 0, none⟩) n cap) n (intsV zs)) (hn : n ≤ 1000000) :
    Calls Tryz.prog 52 #[.slice (some ⟨g, 0, none⟩) n cap] w fun e w' => e = .returned (.tuple #[]) ∧ w'.ownsRow base 3 1 (.slice (some ⟨g, 0, none⟩) n cap) n (intsV (zs.mergeSort fun x y => decide (x ≤ y))) ∧ w.grownBy w' (some g) := by
  have hlen : zs.length = n := by have := h.1; rw [intsV_length] at this; omega
  have hl2 : (zs.mergeSort fun x y => decide (x ≤ y)).length = zs.length := List.length_mergeSort zs
  rw [ints_enc] at h
  have hh := h
  rcases hh.2 with ⟨e0, _⟩ | ⟨g', cap', cur, e0, hbase, hb, h1, h2, h3, h4⟩
  · cases e0
  cases e0
  rw [Nat.mul_one, ← hlen] at h4
  have hH := holds_of_blockI hb h4
  have hs := Any.slices_Sort_int Tryz.sortI g 0 cap zs w hH (Array.getElem?_eq_some_iff.1 hb).1 (by omega)
  rw [hlen] at hs
  refine hs.mono ?_
  rintro e w' ⟨rfl, nn, os, rfl⟩
  refine ⟨rfl, ?_, grownBy_sortedI _⟩
  have hr := ownsRow_sortedI (n := nn) (os := os) (ts := zs.mergeSort fun x y => decide (x ≤ y)) (ss := zs) hl2 hbase hb (by omega) h2 h3
  rw [hlen] at hr
  rw [ints_enc]; exact hr
theorem comp_own {w : World} {base g n cap : Nat} {zs : List Int} (h : w.ownsRow base 3 1 (.slice (some ⟨g, 0, none⟩) n cap) n (intsV zs)) (hn : n ≤ 1000000) :
    Calls Tryz.prog 53 #[.slice (some ⟨g, 0, none⟩) n cap] w fun e w' => e = .returned (.slice (some ⟨g, 0, none⟩) (Lib.compact zs).length cap) ∧ w'.ownsRow base 3 1 (.slice (some ⟨g, 0, none⟩) (Lib.compact zs).length cap) (Lib.compact zs).length (intsV (Lib.compact zs)) ∧ w.grownBy w' (some g) := by
  have hlen : zs.length = n := by have := h.1; rw [intsV_length] at this; omega
  have hle := Lib.compact_length_le zs
  rw [ints_enc] at h
  have hh := h
  rcases hh.2 with ⟨e0, _⟩ | ⟨g', cap', cur, e0, hbase, hb, h1, h2, h3, h4⟩
  · cases e0
  cases e0
  rw [Nat.mul_one, ← hlen] at h4
  have hH := holds_of_blockI hb h4
  have hs := Any.slices_Compact_int Tryz.compI g 0 cap zs w hH (by omega) (by omega)
  rw [hlen] at hs
  refine hs.mono ?_
  rintro e w' ⟨rfl, q, rfl⟩
  refine ⟨rfl, ?_, ?_⟩
  · have hr := Lib.ownsRow_putRow (q := q) (k := (Lib.compact zs).length) (ys := Lib.compact zs ++ List.replicate (n - (Lib.compact zs).length) 0) h (by simp; omega) (by omega)
    rw [List.take_left] at hr
    rw [ints_enc]; exact hr
  · have hg := grownBy_sortedI (w := w) (g := g) (n := q) (os := #[]) (Lib.compact zs ++ List.replicate (n - (Lib.compact zs).length) 0).toArray
    rw [Go.Sort.grow_empty] at hg
    exact hg
theorem vis_pos (l : List Cut) : ∀ (f k : Nat) (st : List Nat × List Int), 0 < st.2.length → 0 < (visC l f k st).2.length
  | 0, _, _, h => h
  | f + 1, k, st, h => by
    unfold visC
    split
    · exact h
    · exact foldl_inv (P := fun s : List Nat × List Int => 0 < s.2.length) _ _ (by simp) fun x _ s hs => vis_pos l f _ s hs
theorem vis_first (l : List Cut) (f k : Nat) : 0 < (visC l (f + 1) k ([], [])).2.length := by
  unfold visC
  rw [if_neg (by simp)]
  exact foldl_inv (P := fun s : List Nat × List Int => 0 < s.2.length) _ _ (by simp) fun x _ s hs => vis_pos l f _ s hs
theorem wrongD_neg {p : Dp} {l : List Cut} (h : ¬ 0 ≤ wrongD p l) : ∀ i, i < l.length → rightD p (l.take i) (cget l i) = true := by
  intro i hi
  unfold wrongD at h
  dsimp only at h
  split at h
  · omega
  · rename_i hf
    have := List.find?_eq_none.1 hf i (List.mem_range.2 hi)
    simpa using this
theorem rlog_of {p : Dp} {l : List Cut} (hp : probD p = true) (h : ¬ 0 ≤ wrongD p l) : RLog p l := fun k hk => by
  obtain ⟨_, hr, hw⟩ := rightD_parts hp (wrongD_neg h k hk)
  refine ⟨hr, fun x hx => ?_⟩
  obtain ⟨i, hi, e⟩ := List.mem_iff_getElem.1 hx
  obtain ⟨q, hq, hql⟩ := hw i hi
  refine ⟨q, ?_, by simp at hql; omega⟩
  rw [← e, ← hq]; unfold iget; rw [List.getElem?_eq_getElem hi]; rfl
def coreE (p : Dp) (l : List Cut) (n : Int) : Int := if probD p && inB n 0 ((l.length : Int) - 1) then (if 0 ≤ wrongD p l then 7 else 0) else 2
def coreL (p : Dp) (l : List Cut) (n : Int) : List Int := if coreE p l n = 0 then coreD p l n.toNat else []
def CoreP (p : Dp) (l : List Cut) (n : Int) (w : World) (e : Ending) (w' : World) : Prop := ∃ lv, e = .returned (.tuple #[lv, .int .i64 (coreE p l n)]) ∧ w'.ownsRow w.heap.size 3 1 lv (coreL p l n).length (intsV (coreL p l n)) ∧ Below w.heap.size w w'
theorem CoreP.bad {p : Dp} {l : List Cut} {n : Int} {w w' : World} {c : Int} (h : coreE p l n = c) (hc : c ≠ 0) (hb : Below w.heap.size w w') : CoreP p l n w (.returned (.tuple #[.slice none 0 0, .int .i64 c])) w' := by
  refine ⟨_, by rw [h], ?_, hb⟩
  unfold coreL
  rw [if_neg (by omega)]
  exact World.ownsRow_nil _ _ _ _
set_option maxRecDepth 100000 in
set_option maxHeartbeats 4000000 in
theorem core_any (p : Dp) (l : List Cut) (n : Int) (hsm : l.length ≤ 1000000) (dv rv lv : Value) (w : World) {B : Nat} (hdv : Us w B dv p.doms) (hrv : DRls w B rv p.rules) (hlv : Cts w B lv l) (hB0 : 0 < B) (hB : B ≤ w.heap.size) (hT : Tab w) :
    Calls Tryz.prog 16 #[.agg #[dv, rv], lv, .int .i64 n] w (CoreP p l n w) := by
  have HDV := Lib.hid hdv; have HRV := Lib.hid hrv; have HLV := Lib.hid hlv; have HT := Lib.hid hT
  obtain ⟨da, dc, rfl⟩ := hdv.slice
  obtain ⟨ra, rc, rfl⟩ := hrv.slice
  obtain ⟨la, lc, rfl⟩ := hlv.slice
  clear hdv hrv hlv hT
  have hmm := @run_makeMap Tryz.prog
  go_enter Tryz.func16, Tryz.ntmps16
  go_upto_region 1 with fail
  refine abs_wp (fun W => W.heap[w.heap.size]? = some (.cells #[.slice da p.doms.length dc, .slice ra p.rules.length rc] 25 (0, 0)) ∧ W.heap[w.heap.size + 1]? = some (.cells #[.slice la l.length lc] 28 (0, 0)) ∧ Below w.heap.size w W) ⟨(heap_new2 w _ _).1, (heap_new2 w _ _).2, Below.new2 w _ _⟩ ?_
  rintro W ⟨k0, k1, hb⟩
  have z0 : w.heap.size < W.heap.size := (Array.getElem?_eq_some_iff.1 k0).1
  have z1 : w.heap.size + 1 < W.heap.size := (Array.getElem?_eq_some_iff.1 k1).1
  have c0 : W.cell? ⟨w.heap.size, 0, none⟩ = some (.slice da p.doms.length dc) := by rw [cell_of_row _ _ _ _ _ _ k0]; rfl
  have c1 : W.cell? ⟨w.heap.size, 1, none⟩ = some (.slice ra p.rules.length rc) := by rw [cell_of_row _ _ _ _ _ _ k0]; rfl
  have K0 := Lib.hid k0; have K1 := Lib.hid k1; have HB := Lib.hid hb
  clear k0 k1 hb
  go_wp2_with fail
  refine (check_any p _ _ _ (HDV.out.below HB.out hB) (HRV.out.below HB.out hB) (Nat.le_trans hB HB.out.size)).mono ?_
  rintro e w2 ⟨rfl, hb2⟩
  have hbw2 := HB.out.trans (hb2.mono HB.out.size)
  have k02 := heap_later K0.out hb2 z0
  have k12 := heap_later K1.out hb2 z1
  have z02 : w.heap.size < w2.heap.size := (Array.getElem?_eq_some_iff.1 k02).1
  have z12 : w.heap.size + 1 < w2.heap.size := (Array.getElem?_eq_some_iff.1 k12).1
  have d0 : w2.cell? ⟨w.heap.size, 0, none⟩ = some (.slice da p.doms.length dc) := by rw [cell_of_row _ _ _ _ _ _ k02]; rfl
  have d1 : w2.cell? ⟨w.heap.size, 1, none⟩ = some (.slice ra p.rules.length rc) := by rw [cell_of_row _ _ _ _ _ _ k02]; rfl
  have d2 : w2.cell? ⟨w.heap.size + 1, 0, none⟩ = some (.slice la l.length lc) := by rw [cell_of_row _ _ _ _ _ _ k12]; rfl
  have K02 := Lib.hid k02; have K12 := Lib.hid k12; have HB2 := Lib.hid hbw2
  clear k02 k12 hb2 hbw2 c0 c1 K0 K1 HB z0 z1
  cases hok : probD p
  case false =>
    have HE : Hid (coreE p l n = 2) := Lib.hid (by unfold coreE; rw [hok]; rfl)
    unfold errOf
    go_wp2
    refine bodyPost_ret (v := .tuple #[.slice none 0 0, .int .i64 2]) (by simp [results, Tryz.results16, go_sem]) rfl (CoreP.bad HE.out (by decide) HB2.out)
  case true =>
    have HOK := Lib.hid hok
    unfold errOf
    clear hok
    go_wp2_with fail
    refine (within_any _ _ _ _).mono ?_
    rintro e w3 ⟨rfl, rfl⟩
    cases hin : inB n 0 ((l.length : Int) - 1)
    case false =>
      have HE : Hid (coreE p l n = 2) := Lib.hid (by unfold coreE; rw [hin, Bool.and_false]; rfl)
      clear hin
      go_wp2
      refine bodyPost_ret (v := .tuple #[.slice none 0 0, .int .i64 2]) (by simp [results, Tryz.results16, go_sem]) rfl (CoreP.bad HE.out (by decide) HB2.out)
    case true =>
      obtain ⟨m, hm, hml⟩ := inB_nat hin
      subst hm
      have HIN := Lib.hid hin
      clear hin
      go_wp2_with fail
      refine (verify_any p l _ _ _ _ (HDV.out.below HB2.out hB) (HRV.out.below HB2.out hB) (HLV.out.below HB2.out hB) hB0 (Nat.le_trans hB HB2.out.size) (HT.out.below HB2.out (by omega))).mono ?_
      rintro e w4 ⟨rfl, hb4⟩
      have hbw4 := HB2.out.trans (hb4.mono HB2.out.size)
      have k14 := heap_later K12.out hb4 z12
      have HB4 := Lib.hid hbw4; have K14 := Lib.hid k14
      clear hb4 hbw4 k14 d0 d1 d2 z02 z12 K02 K12 HB2
      by_cases hw : 0 ≤ wrongD p l
      · have HE : Hid (coreE p l m = 7) := Lib.hid (by unfold coreE; rw [HOK.out, HIN.out]; exact if_pos hw)
        have hve : verE p l = 7 := by unfold verE; rw [HOK.out, if_pos rfl, if_pos hw]
        rw [hve]
        clear hve hw
        go_wp2
        refine bodyPost_ret (v := .tuple #[.slice none 0 0, .int .i64 7]) (by simp [results, Tryz.results16, go_sem]) rfl (CoreP.bad HE.out (by decide) HB4.out)
      · have HE : Hid (coreE p l m = 0 ∧ coreL p l m = coreD p l m) := Lib.hid (by
          have h0 : coreE p l m = 0 := by unfold coreE; rw [HOK.out, HIN.out]; exact if_neg hw
          refine ⟨h0, ?_⟩
          unfold coreL; rw [if_pos h0, Int.toNat_natCast])
        have hve : verE p l = 0 := by unfold verE; rw [HOK.out, if_pos rfl, if_neg hw]
        have HRL := Lib.hid (rlog_of HOK.out hw)
        rw [hve]
        clear hve hw
        go_upto_region 10 with fail
        refine abs_wp (fun W => W.heap[w.heap.size + 1]? = some (.cells #[.slice la l.length lc] 28 (0, 0)) ∧ W.heap[w4.heap.size]? = some (.map #[] 0) ∧ W.heap[w4.heap.size + 1]? = some (.cells #[.map (some w4.heap.size)] 87 (0, 0)) ∧ W.heap[w4.heap.size + 1 + 1]? = some (.cells #[.slice none 0 0] 39 (0, 0)) ∧
          W.heap[w4.heap.size + 1 + 1 + 1]? = some (.cells #[coreF (w4.heap.size + 1) (w4.heap.size + 1 + 1) (w.heap.size + 1) (w4.heap.size + 1 + 1 + 1)] 88 (0, 0)) ∧ Below w4.heap.size w4 W ∧ w4.heap.size + 4 = W.heap.size) ⟨heap_later K14.out (Below.new4 _ _ _ _ _) (Array.getElem?_eq_some_iff.1 K14.out).1, (heap_new4 _ _ _ _ _).1, (heap_new4 _ _ _ _ _).2.1, (heap_new4 _ _ _ _ _).2.2.1, (heap_new4 _ _ _ _ _).2.2.2, Below.new4 _ _ _ _ _, by simp⟩ ?_
        rintro W5 ⟨j0, j1, j2, j3, j4, hb5, hs5⟩
        have f0 : W5.cell? ⟨w4.heap.size + 1 + 1 + 1, 0, none⟩ = some (coreF (w4.heap.size + 1) (w4.heap.size + 1 + 1) (w.heap.size + 1) (w4.heap.size + 1 + 1 + 1)) := by rw [cell_of_row _ _ _ _ _ _ j4]; rfl
        have hw4 := HB4.out.size
        have hbw5 := HB4.out.trans (hb5.mono HB4.out.size)
        have hat : CoreAt l (.slice la l.length lc) (w4.heap.size + 1) (w4.heap.size + 1 + 1) (w.heap.size + 1) (w4.heap.size + 1 + 1 + 1) w4.heap.size W5.heap.size B W5 := ⟨HLV.out.below hbw5 hB, j2, j0, j4, by omega, by omega, by omega, Nat.le_refl _⟩
        have hnow : CoreNow (w4.heap.size + 1 + 1) w4.heap.size W5.heap.size ([], []) W5 := ⟨⟨_, _, j1, rfl⟩, _, j3, World.ownsRow_nil _ _ _ _⟩
        have HC := Lib.hid (visit_any p l HRL.out hsm _ _ _ _ _ _ _ _ (m + 1) m ([], []) W5 (Nat.lt_succ_self _) hml (CS.start _) hat hnow)
        have HB5 := Lib.hid hbw5
        unfold coreF at f0
        clear j0 j1 j2 j3 j4 hb5 hat hnow hbw5 hmm K14 HB4
        go_wp2_with fail
        refine HC.out.mono ?_
        rintro e w6 ⟨⟨rv6, rfl⟩, ⟨-, rv, hr6, ho6⟩, hk6⟩
        obtain ⟨zs, hzs⟩ : ∃ zs, zs = (visC l (m + 1) m ([], [])).2 := ⟨_, rfl⟩
        have hpos := vis_first l m m
        have hfew := (CS.vis HRL.out (m + 1) m ([], []) hml (CS.start _)).le
        have hfin := core_sorted HRL.out hml
        rw [← hzs] at ho6 hpos hfew hfin
        have hbf := HB5.out.trans (hk6.toBelow (B := w.heap.size) (by omega) (by omega) (fun q hq hh => by rcases hh with hh | hh <;> omega))
        obtain ⟨g, cp, rfl⟩ : ∃ g cp, rv = .slice (some ⟨g, 0, none⟩) zs.length cp := by obtain ⟨g, cp, cur, h, _⟩ := own_some ho6 hpos; exact ⟨g, cp, h⟩
        have HO6 := Lib.hid ho6; have HR6 := Lib.hid hr6; have HBF := Lib.hid hbf; have HFN := Lib.hid hfin
        have r6 : w6.cell? ⟨w4.heap.size + 1 + 1, 0, none⟩ = some (.slice (some ⟨g, 0, none⟩) zs.length cp) := by rw [cell_of_row _ _ _ _ _ _ hr6]; rfl
        have z6 : w4.heap.size + 1 + 1 < w6.heap.size := (Array.getElem?_eq_some_iff.1 hr6).1
        have hgb := (ho6.lt g rfl).1
        clear ho6 hr6 hbf hfin hzs hk6 f0 HC
        go_wp2_with fail
        refine (sort_own HO6.out (by omega)).mono ?_
        rintro e w7 ⟨rfl, ho7, hg7⟩
        have hr7 : w7.heap[w4.heap.size + 1 + 1]? = some (.cells #[.slice (some ⟨g, 0, none⟩) zs.length cp] 39 (0, 0)) := (hg7.block _ z6 (fun hh => by cases hh; omega)).trans HR6.out
        have r7 : w7.cell? ⟨w4.heap.size + 1 + 1, 0, none⟩ = some (.slice (some ⟨g, 0, none⟩) zs.length cp) := by rw [cell_of_row _ _ _ _ _ _ hr7]; rfl
        have HO7 := Lib.hid ho7; have HG7 := Lib.hid (HBF.out.grown hg7 (by omega) (fun q hq => by cases hq; omega))
        have z7 : w4.heap.size + 1 + 1 < w7.heap.size := (Array.getElem?_eq_some_iff.1 hr7).1
        clear ho7 hg7 hr7 r6
        go_wp2_with fail
        refine (comp_own HO7.out (by omega)).mono ?_
        rintro e w8 ⟨rfl, ho8, hg8⟩
        rw [HFN.out] at ho8 ⊢
        have hfin : CoreP p l m w (.returned (.tuple #[.slice (some ⟨g, 0, none⟩) (coreD p l m).length cp, .int .i64 0])) w8 := ⟨_, by rw [HE.out.1], by rw [HE.out.2]; exact own_mono ho8 (by omega), HG7.out.grown hg8 (by omega) (fun q hq => by cases hq; omega)⟩
        have HFIN := Lib.hid hfin
        clear hfin ho8 hg8 r7
        go_wp2
        exact bodyPost_ret (v := .tuple #[.slice (some ⟨g, 0, none⟩) (coreD p l m).length cp, .int .i64 0]) (by simp [results, Tryz.results16, go_sem]) rfl HFIN.out
end Go.Proofs.YtdmmegmkdhinjaaGreatDoor
