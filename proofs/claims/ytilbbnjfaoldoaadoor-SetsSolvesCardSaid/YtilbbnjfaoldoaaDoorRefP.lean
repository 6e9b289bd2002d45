/- The reference: node of the search. -/
import Derived.Test.YtilbbnjfaoldoaaDoorRefN
import Derived.Test.YtilbbnjfaoldoaaDoorPlainH
namespace Go.Proofs.YtilbbnjfaoldoaaDoor
open Go Go.RowKit
attribute [local go_sem] cell_grow u64_sAnd u64_sOr u64_sDiff sDiff_all zeqI zneI sAnd_bit_zero sAnd_bit_zeroN sAnd_bit_nonzero rowOf_grow rowOk_grow rowOf_alloc rowOk_alloc

def noneE' : Nat → Prop := fun _ => False
/-- What a node's own blocks hold. -/
structure NdAt (bv rv sv : Value) (s : Fnd) (base : Nat) (w W : World) : Prop where
  srch : W.heap[w.heap.size]? = some (.cells #[sv, .int .i64 (s.nodes : Nat), .bool s.opn] 50 (0, 0))
  prob : W.heap[w.heap.size + 1]? = some (.cells #[bv, rv] 25 (0, 0))
  res : W.heap[w.heap.size + 2]? = some (.cells #[.slice none 0 0, .int .i64 0, .bool false] 50 (0, 0))
  own : SOwn W base sv s.sols
  kept : KeptT 26 noneE' base w W
def NodeP (s : Fnd) (base : Nat) (w : World) (e : Ending) (w' : World) : Prop := ∃ sv, e = .returned (.agg #[sv, .int .i64 (s.nodes : Nat), .bool s.opn]) ∧ SOwn w' base sv s.sols ∧ KeptT 26 noneE' base w w'
theorem NdAt.below {bv rv sv : Value} {s : Fnd} {base : Nat} {w W W' : World} (h : NdAt bv rv sv s base w W) (hb : Below W.heap.size W W') : NdAt bv rv sv s base w W' :=
  ⟨heap_later h.srch hb (Array.getElem?_eq_some_iff.1 h.srch).1, heap_later h.prob hb (Array.getElem?_eq_some_iff.1 h.prob).1, heap_later h.res hb (Array.getElem?_eq_some_iff.1 h.res).1, h.own.ck (CK.below hb), h.kept.below hb⟩
theorem NdAt.kpt {bv rv sv sv' : Value} {s s' : Fnd} {base : Nat} {w W W' : World} (h : NdAt bv rv sv s base w W) (hk : KeptT 26 noneE' base W W') : KeptT 26 noneE' base w W' ∧
    W'.heap[w.heap.size]? = some (.cells #[sv, .int .i64 (s.nodes : Nat), .bool s.opn] 50 (0, 0)) ∧ W'.heap[w.heap.size + 1]? = some (.cells #[bv, rv] 25 (0, 0)) ∧ W'.heap[w.heap.size + 2]? = some (.cells #[.slice none 0 0, .int .i64 0, .bool false] 50 (0, 0)) :=
  ⟨h.kept.trans hk, hk.same _ _ h.srch (fun hh => hh) (.inr (nT (by decide))), hk.same _ _ h.prob (fun hh => hh) (.inr (nT (by decide))), hk.same _ _ h.res (fun hh => hh) (.inr (nT (by decide)))⟩
/-- A cell of the search's own block is laid anew. -/
theorem NdAt.setS {bv rv sv : Value} {s : Fnd} {base : Nat} {w W : World} (h : NdAt bv rv sv s base w W) (o : Nat) (x : Value) : (W.setCell ⟨w.heap.size, o, none⟩ x).heap[w.heap.size]? = some (.cells ((#[sv, .int .i64 (s.nodes : Nat), .bool s.opn] : Array Value).setIfInBounds o x) 50 (0, 0)) ∧
    (W.setCell ⟨w.heap.size, o, none⟩ x).heap[w.heap.size + 1]? = some (.cells #[bv, rv] 25 (0, 0)) ∧ (W.setCell ⟨w.heap.size, o, none⟩ x).heap[w.heap.size + 2]? = some (.cells #[.slice none 0 0, .int .i64 0, .bool false] 50 (0, 0)) ∧
    SOwn (W.setCell ⟨w.heap.size, o, none⟩ x) base sv s.sols ∧ KeptT 26 noneE' base w (W.setCell ⟨w.heap.size, o, none⟩ x) :=
  ⟨set_row h.srch, (Below.heap_setCell _ _ _ _ (by show w.heap.size + 1 ≠ w.heap.size; omega)).trans h.prob, (Below.heap_setCell _ _ _ _ (by show w.heap.size + 2 ≠ w.heap.size; omega)).trans h.res, h.own.setCell h.srch (by decide) (by decide), h.kept.setNew (p := ⟨w.heap.size, o, none⟩) (Nat.le_refl _) _⟩
theorem nd_ret {base : Nat} {w W : World} {a b c x y z : Value} {ss : List (List Nat)} (hr : W.heap[w.heap.size + 2]? = some (.cells #[a, b, c] 50 (0, 0))) (ho : SOwn W base x ss) (hk : KeptT 26 noneE' base w W) :
    (loadVar 50 ⟨w.heap.size + 1 + 1, 0, none⟩).run Tryd.prog (((W.setCell ⟨w.heap.size + 1 + 1, 0, none⟩ x).setCell ⟨w.heap.size + 1 + 1, 1, none⟩ y).setCell ⟨w.heap.size + 1 + 1, 2, none⟩ z) = .ok (.agg #[x, y, z]) (((W.setCell ⟨w.heap.size + 1 + 1, 0, none⟩ x).setCell ⟨w.heap.size + 1 + 1, 1, none⟩ y).setCell ⟨w.heap.size + 1 + 1, 2, none⟩ z) ∧
    SOwn (((W.setCell ⟨w.heap.size + 1 + 1, 0, none⟩ x).setCell ⟨w.heap.size + 1 + 1, 1, none⟩ y).setCell ⟨w.heap.size + 1 + 1, 2, none⟩ z) base x ss ∧
    KeptT 26 noneE' base w (((W.setCell ⟨w.heap.size + 1 + 1, 0, none⟩ x).setCell ⟨w.heap.size + 1 + 1, 1, none⟩ y).setCell ⟨w.heap.size + 1 + 1, 2, none⟩ z) := by
  have j1 := set_row (o := 0) (v := x) hr
  have j2 := set_row (o := 1) (v := y) j1
  have j3 := set_row (o := 2) (v := z) j2
  have hi : (Tryd.prog.info? 50).map (·.size) = some [x, y, z].length := by kernel_rfl
  refine ⟨run_loadVar_mid _ _ 0 _ [x, y, z] _ (row_range3 j3) Tryd.underlying50 rfl hi, ((ho.setCell hr (by decide) (by decide)).setCell j1 (by decide) (by decide)).setCell j2 (by decide) (by decide), ?_⟩
  exact ((hk.setNew (p := ⟨w.heap.size + 1 + 1, 0, none⟩) (by show w.heap.size ≤ w.heap.size + 1 + 1; omega) x).setNew (p := ⟨w.heap.size + 1 + 1, 1, none⟩) (by show w.heap.size ≤ w.heap.size + 1 + 1; omega) y).setNew (p := ⟨w.heap.size + 1 + 1, 2, none⟩) (by show w.heap.size ≤ w.heap.size + 1 + 1; omega) z
/-- A row stays where a cell of a block of another type is laid anew. -/
theorem own_setT {w : World} {base b : Nat} {e : TypeId} {sz : Nat} {v x : Value} {n : Nat} {xs : List Value} {c : Array Value} {t : TypeId} {o : Nat} (h : w.ownsRow base e sz v n xs) (hb : w.heap[b]? = some (.cells c t (0, 0))) (ht : t ≠ e) : (w.setCell ⟨b, o, none⟩ x).ownsRow base e sz v n xs :=
  own_type h fun k c' hk => (Below.heap_setCell _ _ _ _ (fun hh => by
    have hh' : k = b := hh
    subst hh'
    rw [hb] at hk
    cases hk
    exact ht rfl)).trans hk
/-- What holds in the regions that call the next nodes. -/
structure HeldN (bv rv av : Value) (al : List Bnd) (base base2 n : Nat) (w Z : World) : Prop where
  prob : Z.heap[w.heap.size + 1]? = some (.cells #[bv, rv] 25 (0, 0))
  kept : KeptT 26 noneE' base w Z
  row : Z.ownsRow base2 67 2 av n (bCells al)
theorem HeldN.kpt {bv rv av : Value} {al : List Bnd} {base base2 n : Nat} {w Z Z' : World} (h : HeldN bv rv av al base base2 n w Z) (hk : KeptT 26 noneE' base Z Z') : HeldN bv rv av al base base2 n w Z' :=
  ⟨hk.same _ _ h.prob (fun hh => hh) (.inr (nT (by decide))), h.kept.trans hk, own_type h.row fun k c hk' => hk.same _ _ hk' (fun hh => hh) (.inr (nT (by decide)))⟩
theorem HeldN.cells {bv rv av : Value} {al : List Bnd} {base base2 n : Nat} {w Z : World} (h : HeldN bv rv av al base base2 n w Z) : Z.cell? ⟨w.heap.size + 1, 0, none⟩ = some bv ∧ Z.cell? ⟨w.heap.size + 1, 1, none⟩ = some rv :=
  ⟨by rw [cell_of_row _ _ _ _ _ _ h.prob]; rfl, by rw [cell_of_row _ _ _ _ _ _ h.prob]; rfl⟩
/-- Three cells of an own block of a node laid anew. -/
theorem held_set3 {bv rv av : Value} {al : List Bnd} {base base2 n : Nat} {w Z : World} {c : Array Value} (h : HeldN bv rv av al base base2 n w Z) {b : Nat} (hb : Z.heap[b]? = some (.cells c 50 (0, 0))) (hbw : w.heap.size ≤ b) (x y z : Value) :
    HeldN bv rv av al base base2 n w (((Z.setCell ⟨b, 0, none⟩ x).setCell ⟨b, 1, none⟩ y).setCell ⟨b, 2, none⟩ z) := by
  have j1 := set_row (o := 0) (v := x) hb
  have j2 := set_row (o := 1) (v := y) j1
  have hn : w.heap.size + 1 ≠ b := fun hh => by subst hh; have := h.prob; rw [hb] at this; simp only [Option.some.injEq, Obj.cells.injEq] at this; exact absurd this.2.1 (by decide)
  exact ⟨(Below.heap_setCell _ _ _ _ hn).trans ((Below.heap_setCell _ _ _ _ hn).trans ((Below.heap_setCell _ _ _ _ hn).trans h.prob)),
    ((h.kept.setNew (p := ⟨b, 0, none⟩) hbw x).setNew (p := ⟨b, 1, none⟩) hbw y).setNew (p := ⟨b, 2, none⟩) hbw z,
    own_setT (own_setT (own_setT h.row hb (by decide)) j1 (by decide)) j2 (by decide)⟩
theorem nd_set3 {bv rv sv sv' : Value} {s s' : Fnd} {base : Nat} {w W W' : World} (h : NdAt bv rv sv s base w W) (hk : KeptT 26 noneE' base W W') (ho : SOwn W' base sv' s'.sols) :
    NdAt bv rv sv' s' base w (((W'.setCell ⟨w.heap.size, 0, none⟩ sv').setCell ⟨w.heap.size, 1, none⟩ (.int .i64 (s'.nodes : Nat))).setCell ⟨w.heap.size, 2, none⟩ (.bool s'.opn)) := by
  obtain ⟨k1, k2, k3, k4⟩ := h.kpt (sv' := sv') (s' := s') hk
  have j1 := set_row (o := 0) (v := sv') k2
  have j2 := set_row (o := 1) (v := .int .i64 (s'.nodes : Nat)) j1
  have j3 := set_row (o := 2) (v := .bool s'.opn) j2
  have n1 : w.heap.size + 1 ≠ w.heap.size := by omega
  have n2 : w.heap.size + 2 ≠ w.heap.size := by omega
  exact ⟨j3, (Below.heap_setCell _ _ _ _ n1).trans ((Below.heap_setCell _ _ _ _ n1).trans ((Below.heap_setCell _ _ _ _ n1).trans k3)), (Below.heap_setCell _ _ _ _ n2).trans ((Below.heap_setCell _ _ _ _ n2).trans ((Below.heap_setCell _ _ _ _ n2).trans k4)),
    ((ho.setCell k2 (by decide) (by decide)).setCell j1 (by decide) (by decide)).setCell j2 (by decide) (by decide),
    ((k1.setNew (p := ⟨w.heap.size, 0, none⟩) (Nat.le_refl _) _).setNew (p := ⟨w.heap.size, 1, none⟩) (Nat.le_refl _) _).setNew (p := ⟨w.heap.size, 2, none⟩) (Nat.le_refl _) _⟩
def nodeAOps : Array Oper := #[
  { dst := some 92, op := Op.load 50 (Operand.tmp 3), type := 50, pos := "ref.go:334", after := #[], guard := none },
  { dst := some 93, op := Op.move (Operand.tmp 7), type := 22, pos := "ref.go:334", after := #[], guard := none },
  { dst := some 94, op := Op.move (Operand.tmp 10), type := 3, pos := "ref.go:334", after := #[], guard := none },
  { dst := some 95, op := Op.move (Operand.tmp 13), type := 3, pos := "ref.go:334", after := #[], guard := none },
  { dst := some 96, op := Op.call { callee := Callee.value (Operand.func 79), args := #[Operand.tmp 93, Operand.tmp 94, Operand.tmp 95, Operand.const (Value.bool true)], argTypes := #[22, 3, 3, 4] }, type := 22, pos := "ref.go:334", after := #[{ on := 1, ground := Ground.data }, { on := 2, ground := Ground.data }, { on := 3, ground := Ground.data }], guard := none },
  { dst := some 97, op := Op.fieldAddr 25 (Operand.tmp 4) 1, type := 0, pos := "ref.go:334", after := #[], guard := none },
  { dst := some 98, op := Op.load 23 (Operand.tmp 97), type := 23, pos := "ref.go:334", after := #[{ on := 5, ground := Ground.data }], guard := none },
  { dst := some 99, op := Op.build 25 #[(0, Operand.tmp 96), (1, Operand.tmp 98)], type := 25, pos := "ref.go:334", after := #[{ on := 4, ground := Ground.data }, { on := 6, ground := Ground.data }], guard := none },
  { dst := some 100, op := Op.move (Operand.tmp 2), type := 3, pos := "ref.go:334", after := #[], guard := none },
  { dst := some 101, op := Op.call { callee := Callee.value (Operand.func 75), args := #[Operand.tmp 92, Operand.tmp 99, Operand.tmp 100], argTypes := #[50, 25, 3] }, type := 50, pos := "ref.go:334", after := #[{ on := 0, ground := Ground.data }, { on := 7, ground := Ground.data }, { on := 8, ground := Ground.data }, { on := 4, ground := Ground.chain }], guard := none },
  { dst := none, op := Op.store 50 (Operand.tmp 3) (Operand.tmp 101), type := 0, pos := "ref.go:334", after := #[{ on := 9, ground := Ground.data }, { on := 9, ground := Ground.chain }, { on := 0, ground := Ground.phase }, { on := 1, ground := Ground.phase }, { on := 2, ground := Ground.phase }, { on := 3, ground := Ground.phase }, { on := 4, ground := Ground.phase }, { on := 5, ground := Ground.phase }, { on := 6, ground := Ground.phase }, { on := 7, ground := Ground.phase }, { on := 8, ground := Ground.phase }, { on := 9, ground := Ground.phase }], guard := none }]
def nodeBOps : Array Oper := #[
  { dst := some 112, op := Op.load 50 (Operand.tmp 3), type := 50, pos := "ref.go:338", after := #[], guard := none },
  { dst := some 113, op := Op.move (Operand.tmp 7), type := 22, pos := "ref.go:338", after := #[], guard := none },
  { dst := some 114, op := Op.move (Operand.tmp 10), type := 3, pos := "ref.go:338", after := #[], guard := none },
  { dst := some 115, op := Op.move (Operand.tmp 13), type := 3, pos := "ref.go:338", after := #[], guard := none },
  { dst := some 116, op := Op.call { callee := Callee.value (Operand.func 79), args := #[Operand.tmp 113, Operand.tmp 114, Operand.tmp 115, Operand.const (Value.bool false)], argTypes := #[22, 3, 3, 4] }, type := 22, pos := "ref.go:338", after := #[{ on := 1, ground := Ground.data }, { on := 2, ground := Ground.data }, { on := 3, ground := Ground.data }], guard := none },
  { dst := some 117, op := Op.fieldAddr 25 (Operand.tmp 4) 1, type := 0, pos := "ref.go:338", after := #[], guard := none },
  { dst := some 118, op := Op.load 23 (Operand.tmp 117), type := 23, pos := "ref.go:338", after := #[{ on := 5, ground := Ground.data }], guard := none },
  { dst := some 119, op := Op.build 25 #[(0, Operand.tmp 116), (1, Operand.tmp 118)], type := 25, pos := "ref.go:338", after := #[{ on := 4, ground := Ground.data }, { on := 6, ground := Ground.data }], guard := none },
  { dst := some 120, op := Op.move (Operand.tmp 2), type := 3, pos := "ref.go:338", after := #[], guard := none },
  { dst := some 121, op := Op.call { callee := Callee.value (Operand.func 75), args := #[Operand.tmp 112, Operand.tmp 119, Operand.tmp 120], argTypes := #[50, 25, 3] }, type := 50, pos := "ref.go:338", after := #[{ on := 0, ground := Ground.data }, { on := 7, ground := Ground.data }, { on := 8, ground := Ground.data }, { on := 4, ground := Ground.chain }], guard := none },
  { dst := none, op := Op.store 50 (Operand.tmp 6) (Operand.tmp 121), type := 0, pos := "ref.go:338", after := #[{ on := 9, ground := Ground.data }, { on := 9, ground := Ground.chain }, { on := 0, ground := Ground.phase }, { on := 1, ground := Ground.phase }, { on := 2, ground := Ground.phase }, { on := 3, ground := Ground.phase }, { on := 4, ground := Ground.phase }, { on := 5, ground := Ground.phase }, { on := 6, ground := Ground.phase }, { on := 7, ground := Ground.phase }, { on := 8, ground := Ground.phase }, { on := 9, ground := Ground.phase }], guard := none }]
set_option maxRecDepth 100000 in
set_option maxHeartbeats 4000000 in
theorem refNode_any (p : Prob) (hpo : probOk p = true) (most : Int) (rv : Value) (B base : Nat) (hBb : B ≤ base) : ∀ (k : Nat) (all : List Bnd) (s : Fnd) (sv bv : Value) (w : World) (B' : Nat), openN (padB all) < k → all.length = p.bounds.length → S12 all → Sub all → Few p.bounds.length s → s.opn = false → (s.sols.length : Int) < most →
    SOwn w base sv s.sols → Bnds w B' bv all → B' ≤ w.heap.size → Rls w B rv p.rules → base ≤ w.heap.size →
    Calls Tryd.prog 75 #[.agg #[sv, .int .i64 (s.nodes : Nat), .bool s.opn], .agg #[bv, rv], .int .i64 most] w (NodeP (nodeR p most k (padB all) s).2 base w) := by
  intro k
  induction k with
  | zero => intro all s sv bv w B' h; omega
  | succ k ih =>
  intro all s sv bv w B' hk hal h12 hsub hfew hopn hmost hso hbv hB' hrv hbase
  have HIH := Lib.hid ih
  clear ih
  have HFIT := Lib.hid (probOk_fit hpo)
  have HPO := Lib.hid hpo; have H12 := Lib.hid h12; have HSUB := Lib.hid hsub; have HFEW := Lib.hid hfew; have HSO := Lib.hid hso; have HBV := Lib.hid hbv; have HRV := Lib.hid hrv; have HOPN := Lib.hid hopn; have HMOST := Lib.hid hmost
  have hn200 := hfew.2.1
  have hn8 := (probOk_fit hpo).2.1
  have hn3 : NdAt bv rv sv s base w (((w.alloc (.cells #[sv, .int .i64 (s.nodes : Nat), .bool s.opn] 50)).alloc (.cells #[bv, rv] 25)).alloc (.cells #[.slice none 0 0, .int .i64 0, .bool false] 50)) :=
    have h3 := heap_new3 w (.cells #[sv, .int .i64 (s.nodes : Nat), .bool s.opn] 50) (.cells #[bv, rv] 25) (.cells #[.slice none 0 0, .int .i64 0, .bool false] 50)
    have hb := Below.new3 w (.cells #[sv, .int .i64 (s.nodes : Nat), .bool s.opn] 50) (.cells #[bv, rv] 25) (.cells #[.slice none 0 0, .int .i64 0, .bool false] 50)
    ⟨h3.1, h3.2.1, h3.2.2, hso.ck (CK.below hb), KeptT.of_below hb⟩
  have HN := Lib.hid hn3
  obtain ⟨sa, sc, rfl⟩ : ∃ a c, sv = .slice a s.sols.length c := by obtain ⟨cs0, hc0, _⟩ := hso; exact own_form hc0
  obtain ⟨ba, bc, rfl⟩ : ∃ a c, bv = .slice a p.bounds.length c := by rw [← hal]; exact hbv.slice
  obtain ⟨ra, rc, rfl⟩ := hrv.slice
  clear hbv hrv hfew hpo h12 hsub hopn hmost hn3 hso
  go_enter Tryd.func75, Tryd.ntmps75
  go_upto_region 1 with fail
  refine abs_wp (fun Z => NdAt (.slice ba p.bounds.length bc) (.slice ra p.rules.length rc) (.slice sa s.sols.length sc) s base w Z ∧ Below w.heap.size w Z) ⟨HN.out, Below.new3 _ _ _ _⟩ ?_
  clear HN HSO
  rintro W ⟨hn, hlow⟩
  have s0 : W.cell? ⟨w.heap.size, 0, none⟩ = some (.slice sa s.sols.length sc) := by rw [cell_of_row _ _ _ _ _ _ hn.srch]; rfl
  have s1 : W.cell? ⟨w.heap.size, 1, none⟩ = some (.int .i64 (s.nodes : Nat)) := by rw [cell_of_row _ _ _ _ _ _ hn.srch]; rfl
  have s2 : W.cell? ⟨w.heap.size, 2, none⟩ = some (.bool s.opn) := by rw [cell_of_row _ _ _ _ _ _ hn.srch]; rfl
  have s1f : W.frozen? ⟨w.heap.size, 1, none⟩ = false := by simp [World.frozen?, hn.srch]
  have s2f : W.frozen? ⟨w.heap.size, 2, none⟩ = false := by simp [World.frozen?, hn.srch]
  have r0 : W.cell? ⟨w.heap.size + 2, 0, none⟩ = some (.slice none 0 0) := by rw [cell_of_row _ _ _ _ _ _ hn.res]; rfl
  have r1 : W.cell? ⟨w.heap.size + 2, 1, none⟩ = some (.int .i64 0) := by rw [cell_of_row _ _ _ _ _ _ hn.res]; rfl
  have r2 : W.cell? ⟨w.heap.size + 2, 2, none⟩ = some (.bool false) := by rw [cell_of_row _ _ _ _ _ _ hn.res]; rfl
  have rf0 : W.frozen? ⟨w.heap.size + 2, 0, none⟩ = false := by simp [World.frozen?, hn.res]
  have rf1 : W.frozen? ⟨w.heap.size + 2, 1, none⟩ = false := by simp [World.frozen?, hn.res]
  have rf2 : W.frozen? ⟨w.heap.size + 2, 2, none⟩ = false := by simp [World.frozen?, hn.res]
  have z0 : w.heap.size < W.heap.size := (Array.getElem?_eq_some_iff.1 hn.srch).1
  have z1 : w.heap.size + 1 < W.heap.size := (Array.getElem?_eq_some_iff.1 hn.prob).1
  have z2 : w.heap.size + 2 < W.heap.size := (Array.getElem?_eq_some_iff.1 hn.res).1
  have HN := Lib.hid hn
  clear hn
  by_cases h200 : s.nodes = 200
  · have e1 : (200 : Int) ≤ ((s.nodes : Nat) : Int) := by omega
    have hres : nodeR p most (k + 1) (padB all) s = (false, { s with opn := true }) := by unfold nodeR; rw [if_pos h200]
    have HRES := Lib.hid hres
    clear hres h200
    have hs := HN.out.setS 2 (.bool true)
    have hret := nd_ret (x := .slice sa s.sols.length sc) (y := .int .i64 (s.nodes : Nat)) (z := .bool true) hs.2.2.1 hs.2.2.2.1 hs.2.2.2.2
    have HRET := Lib.hid hret
    clear hs hret
    go_wp2
    rw [HRES.out]
    exact bodyPost_ret (results_cell1 (p := 6) (ty := 50) rfl rfl HRET.out.1) rfl ⟨_, rfl, HRET.out.2.1, HRET.out.2.2⟩
  · have e1 : ¬ (200 : Int) ≤ ((s.nodes : Nat) : Int) := by omega
    go_upto_region 5 with fail
    have hs := HN.out.setS 1 (.int .i64 ((s.nodes : Nat) + 1))
    refine abs_wp (fun Z => NdAt (.slice ba p.bounds.length bc) (.slice ra p.rules.length rc) (.slice sa s.sols.length sc) { s with nodes := s.nodes + 1 } base w Z ∧ Below w.heap.size w Z) ⟨⟨hs.1, hs.2.1, hs.2.2.1, hs.2.2.2.1, hs.2.2.2.2⟩, hlow.setCell (Nat.le_refl _) _⟩ ?_
    clear hs HN s0 s1 s2 s1f s2f r0 r1 r2 rf0 rf1 rf2 z0 z1 z2 e1 hlow
    rintro W1 ⟨hn, hlow⟩
    have b0 : W1.cell? ⟨w.heap.size + 1, 0, none⟩ = some (.slice ba p.bounds.length bc) := by rw [cell_of_row _ _ _ _ _ _ hn.prob]; rfl
    have b1 : W1.cell? ⟨w.heap.size + 1, 1, none⟩ = some (.slice ra p.rules.length rc) := by rw [cell_of_row _ _ _ _ _ _ hn.prob]; rfl
    have z1 : w.heap.size + 1 < W1.heap.size := (Array.getElem?_eq_some_iff.1 hn.prob).1
    have hrun := refRun_any ⟨all, p.rules⟩ (probOk_with HPO.out hal H12.out HSUB.out) false (.slice ba p.bounds.length bc) (.slice ra p.rules.length rc) W1 (B := W1.heap.size) ((HBV.out.below hlow hB').mono (by have := hlow.size; omega)) ((HRV.out.below hlow (by omega)).mono (by have := hlow.size; omega)) (Nat.le_refl _)
    have HRUN := Lib.hid hrun; have HN := Lib.hid hn; have HLOW := Lib.hid hlow
    clear hrun hn hlow
    go_wp2_with fail
    refine HRUN.out.mono ?_
    rintro e w2 ⟨av, lv, al2, fs, rfl, h1, h2, _, ⟨hav0, hav⟩, h5, hb2⟩
    clear HRUN b0 b1 h5
    have hrr : refRes ⟨all, p.rules⟩ false = runR p false (padB all, []) := runR_rules (p := ⟨all, p.rules⟩) (q := p) rfl _
    rw [hrr] at h1 ⊢
    have hgood := run_pad HPO.out hal H12.out HSUB.out
    obtain ⟨r, hr⟩ : ∃ r, r = runR p false (padB all, []) := ⟨_, rfl⟩
    rw [← hr] at h1 hgood ⊢
    have hl2 : al2.length = p.bounds.length := h2.trans hal
    have H122 : Hid (S12 al2) := Lib.hid (S12.of_pad (by rw [← h1]; exact hgood.1.s12))
    have HSUB2 : Hid (Sub al2) := Lib.hid (Sub.of_pad (by rw [← h1]; exact hgood.1.sub))
    have hop2 : openN (padB al2) ≤ openN (padB all) := by rw [← h1]; exact hgood.2
    have HN2 := Lib.hid (HN.out.below hb2)
    rw [hl2] at hav
    have HAV := Lib.hid hav
    obtain ⟨aa, ac, rfl⟩ := own_form hav
    have HRR := Lib.hid hr; have HR1 := Lib.hid h1
    have hs12 : w.heap.size ≤ w2.heap.size := by have := hb2.size; have := HLOW.out.size; omega
    have HLOW2 := Lib.hid (HLOW.out.trans (hb2.mono HLOW.out.size))
    clear hav h1 h2 hr hrr hgood hav0 hb2 HN HLOW HBV z1
    have s0 : w2.cell? ⟨w.heap.size, 0, none⟩ = some (.slice sa s.sols.length sc) := by rw [cell_of_row _ _ _ _ _ _ HN2.out.srch]; rfl
    have s1 : w2.cell? ⟨w.heap.size, 1, none⟩ = some (.int .i64 ((s.nodes : Nat) + 1)) := by rw [cell_of_row _ _ _ _ _ _ HN2.out.srch]; rfl
    have s2 : w2.cell? ⟨w.heap.size, 2, none⟩ = some (.bool s.opn) := by rw [cell_of_row _ _ _ _ _ _ HN2.out.srch]; rfl
    have z0 : w.heap.size < w2.heap.size := (Array.getElem?_eq_some_iff.1 HN2.out.srch).1
    have z2 : w.heap.size + 2 < w2.heap.size := (Array.getElem?_eq_some_iff.1 HN2.out.res).1
    by_cases hr0 : 0 ≤ r.2
    · have hres : nodeR p most (k + 1) (padB all) s = (true, { s with nodes := s.nodes + 1 }) := by
        unfold nodeR
        rw [if_neg h200, ← HRR.out]
        dsimp only
        rw [if_pos hr0]
      have HRES := Lib.hid hres
      have r0 : w2.cell? ⟨w.heap.size + 2, 0, none⟩ = some (.slice none 0 0) := by rw [cell_of_row _ _ _ _ _ _ HN2.out.res]; rfl
      have r1 : w2.cell? ⟨w.heap.size + 2, 1, none⟩ = some (.int .i64 0) := by rw [cell_of_row _ _ _ _ _ _ HN2.out.res]; rfl
      have r2 : w2.cell? ⟨w.heap.size + 2, 2, none⟩ = some (.bool false) := by rw [cell_of_row _ _ _ _ _ _ HN2.out.res]; rfl
      have rf0 : w2.frozen? ⟨w.heap.size + 2, 0, none⟩ = false := by simp [World.frozen?, HN2.out.res]
      have rf1 : w2.frozen? ⟨w.heap.size + 2, 1, none⟩ = false := by simp [World.frozen?, HN2.out.res]
      have rf2 : w2.frozen? ⟨w.heap.size + 2, 2, none⟩ = false := by simp [World.frozen?, HN2.out.res]
      have HRET := Lib.hid (nd_ret (x := .slice sa s.sols.length sc) (y := .int .i64 ((s.nodes : Nat) + 1)) (z := .bool s.opn) HN2.out.res HN2.out.own HN2.out.kept)
      clear hres h200
      go_wp2
      rw [HRES.out]
      exact bodyPost_ret (results_cell1 (p := 6) (ty := 50) rfl rfl HRET.out.1) rfl ⟨_, rfl, HRET.out.2.1, HRET.out.2.2⟩
    · clear s0 s1 s2
      go_wp2_with fail
      go_loopw [10] (fun iv wr => ∃ i : Nat, i ≤ p.bounds.length ∧ iv = .int .i64 i ∧ (∀ j, j < i → openAt al2 j = false) ∧ Below w2.heap.size w2 wr) (fun iv _ => p.bounds.length - (intOf iv).toNat)
      case atStart => exact ⟨0, Nat.zero_le _, rfl, fun j hj => absurd hj (Nat.not_lt_zero _), Below.refl _ _⟩
      case round =>
        obtain ⟨i, hi, rfl, hall, hb⟩ := hrel
        have HALL := Lib.hid hall; have HB := Lib.hid hb
        clear hall
        by_cases hlt : i < p.bounds.length
        · obtain ⟨ga, ca, cura, hae, hga, hgac, -, -, hcur⟩ := own_some (own_ck HAV.out (CK.below hb)) (by omega)
          cases hae
          have q0 : wr.cell? ⟨ga, i * 2, none⟩ = some (.int .u64 ((bget al2 i).inn : Nat)) := by rw [cell_of_row _ _ _ _ _ _ hgac, hcur _ (by omega), bCells_get _ _ (by omega), bcellAt_inn]
          have q1 : wr.cell? ⟨ga, i * 2 + 1, none⟩ = some (.int .u64 ((bget al2 i).can : Nat)) := by rw [cell_of_row _ _ _ _ _ _ hgac, hcur _ (by omega), bCells_get _ _ (by omega), bcellAt_can]
          have zg : ga < wr.heap.size := (Array.getElem?_eq_some_iff.1 hgac).1
          clear hcur hgac hga hb
          by_cases heq : (bget al2 i).inn = (bget al2 i).can
          · have e1 : ((((bget al2 i).inn : Nat) : Int) == (((bget al2 i).can : Nat) : Int)) = true := by rw [heq]; simp
            have HO : Hid (openAt al2 i = false) := Lib.hid (by unfold openAt; rw [decide_eq_true heq]; rfl)
            clear heq
            go_wp2_with fail
            refine wp_region_qb (by kernel_rfl) (by kernel_rfl) ?_
            repeat go_big_quiet_step (fail)
            refine wpQuiet_nil ?_
            intro w4 hb4
            have HB4 := Lib.hid (HB.out.trans (hb4.mono HB.out.size))
            clear hb4
            go_wp2
            go_roundw
            case rel => exact ⟨i + 1, by omega, by go_num, fun j hj => if h : j = i then h ▸ HO.out else HALL.out j (by omega), HB4.out⟩
            case measure => simp [intOf]; omega
          · have e1 : ((((bget al2 i).inn : Nat) : Int) == (((bget al2 i).can : Nat) : Int)) = false := by
              rw [Bool.eq_false_iff]; intro h; exact heq (by have : (((bget al2 i).inn : Nat) : Int) = (((bget al2 i).can : Nat) : Int) := by simpa using h
                                                             omega)
            have HO : Hid (openAt al2 i = true) := Lib.hid (by unfold openAt; rw [decide_eq_false heq]; rfl)
            clear heq
            have hne : ¬ ((i : Nat) : Int) = ((p.bounds.length : Nat) : Int) := by omega
            have e2 : (((i : Nat) : Int) == ((p.bounds.length : Nat) : Int)) = false := by simp; omega
            go_wp2_with fail
            refine wp_region_qb (by kernel_rfl) (by kernel_rfl) ?_
            repeat go_big_quiet_step (fail)
            refine wpQuiet_nil ?_
            intro w4 hb4
            have HB4 := Lib.hid (HB.out.trans (hb4.mono HB.out.size))
            clear hb4 q0 q1 e1 HB zg
            have HV : Hid (openV r.1.1 p.bounds.length = i) := Lib.hid (by rw [HR1.out, openV_pad]; exact idxOf_some hlt HALL.out HO.out)
            have hpe := pick_elem H122.out HSUB2.out HO.out
            obtain ⟨c, hc⟩ : ∃ c, c = ctzN (openE (bget al2 i)) := ⟨_, rfl⟩
            rw [← hc] at hpe
            have hc12 := hpe.1
            have HPE := Lib.hid hpe.2
            have HC := Lib.hid hc
            have hua : U64 (openE (bget al2 i)) := (H122.out.u64.get i).2.diff
            have HUA := Lib.hid hua
            have HLO : Hid (∀ j, j < c → (openE (bget al2 i)).testBit j = false) := Lib.hid fun j hj => (and_pred_testBit _ (openE_ne HSUB2.out HO.out) hua j).2.1 (by rw [← hc]; exact hj)
            clear hpe hc hua HALL
            go_wp2_with fail
            go_loopw [13] (fun ev wr => ∃ e : Nat, e ≤ c ∧ ev = .int .i64 e ∧ Below w2.heap.size w2 wr) (fun ev _ => c - (intOf ev).toNat)
            case atStart => exact ⟨0, Nat.zero_le _, rfl, HB4.out⟩
            case round =>
              clear HB4
              obtain ⟨e, he, rfl, hb⟩ := hrel
              have HB := Lib.hid hb
              obtain ⟨ga2, ca2, cura, hae, hga, hgac, -, -, hcur⟩ := own_some (own_ck HAV.out (CK.below hb)) (by omega)
              cases hae
              have q0 : wr.cell? ⟨ga, i * 2, none⟩ = some (.int .u64 ((bget al2 i).inn : Nat)) := by rw [cell_of_row _ _ _ _ _ _ hgac, hcur _ (by omega), bCells_get _ _ (by omega), bcellAt_inn]
              have q1 : wr.cell? ⟨ga, i * 2 + 1, none⟩ = some (.int .u64 ((bget al2 i).can : Nat)) := by rw [cell_of_row _ _ _ _ _ _ hgac, hcur _ (by omega), bCells_get _ _ (by omega), bcellAt_can]
              have zg : ga < wr.heap.size := (Array.getElem?_eq_some_iff.1 hgac).1
              have he12 : e < 12 := by omega
              have hu1 := (H122.out.u64.get i).1
              have hu2 := (H122.out.u64.get i).2
              have HHA := Lib.hid (fun (d : Nat) (os : Array Obj) => Gives.of_same (has_any (sDiff (bget al2 i).can (bget al2 i).inn) e (Go.Sort.grow (redrawn wr d) os) HUA.out he12))
              clear hcur hgac hga hb
              by_cases hec : e < c
              · rw [show bitB (sDiff (bget al2 i).can (bget al2 i).inn) e = false from HLO.out e hec] at HHA
                go_wp2_with fail
                refine wp_region_qb (by kernel_rfl) (by kernel_rfl) ?_
                repeat go_big_quiet_step ((with_reducible exact Gives.quiet (HHA.out _ _)))
                refine wpQuiet_nil ?_
                intro w4 hb4
                have HB4 := Lib.hid (HB.out.trans (hb4.mono HB.out.size))
                clear hb4
                go_wp2
                go_roundw
                case rel => exact ⟨e + 1, by omega, by go_num, HB4.out⟩
                case measure => simp [intOf]; omega
              · have hec2 : e = c := by omega
                subst hec2
                rw [show bitB (sDiff (bget al2 i).can (bget al2 i).inn) e = true from HPE.out] at HHA
                go_wp2_with fail
                refine wp_region_qb (by kernel_rfl) (by kernel_rfl) ?_
                repeat go_big_quiet_step ((with_reducible exact Gives.quiet (HHA.out _ _)))
                refine wpQuiet_nil ?_
                intro w4 hb4
                have HB4 := Lib.hid (HB.out.trans (hb4.mono HB.out.size))
                clear hb4 q0 q1 HHA HB zg
                have hil : i < al2.length := by omega
                have hgw : s.sols.length ≤ 200 := Nat.le_trans HFEW.out.1 hn200
                have hn1 := openN_withB (padB al2) i e true (by rw [padB_length (by omega)]; omega) hc12 (by rw [bget_pad]; exact HPE.out)
                have hn2 := openN_withB (padB al2) i e false (by rw [padB_length (by omega)]; omega) hc12 (by rw [bget_pad]; exact HPE.out)
                have hq := nodeR_succ p most k (padB all) s h200 (by rw [← HRR.out]; omega) (i := i) (by rw [← HRR.out]; exact HV.out)
                rw [← HRR.out, HR1.out, bget_pad, ← HC.out, padB_with e true hil, padB_with e false hil] at hq
                have hfl := nodeR_flag HPO.out most k (padB (withB al2 i e true)) { s with nodes := s.nodes + 1 } (by rw [← padB_with e true hil]; omega) (padB_length (by rw [withB_length]; omega)) (H122.out.with hc12 true).pad (Sub.pad (sub_withB true hil HPE.out HSUB2.out)) HOPN.out HMOST.out
                have hfq := nodeR_few p HPO.out most k (padB (withB al2 i e true)) { s with nodes := s.nodes + 1 } (padB_length (by rw [withB_length]; omega)) (H122.out.with hc12 true).pad (Sub.pad (sub_withB true hil HPE.out HSUB2.out)) ⟨Nat.le_trans HFEW.out.1 (Nat.le_succ _), by show s.nodes + 1 ≤ 200; omega, HFEW.out.2.2⟩
                have hih : ∀ (sv bv : Value) (V : World) (B' : Nat), SOwn V base sv s.sols → Bnds V B' bv (withB al2 i e true) → B' ≤ V.heap.size → Rls V B (.slice ra p.rules.length rc) p.rules → base ≤ V.heap.size →
                    Calls Tryd.prog 75 #[.agg #[sv, .int .i64 ((s.nodes : Nat) + 1), .bool s.opn], .agg #[bv, .slice ra p.rules.length rc], .int .i64 most] V (NodeP (nodeR p most k (padB (withB al2 i e true)) { s with nodes := s.nodes + 1 }).2 base V) := fun sv bv V B' => HIH.out (withB al2 i e true) { s with nodes := s.nodes + 1 } sv bv V B' (by rw [← padB_with e true hil]; omega) (by rw [withB_length]; exact hl2) (H122.out.with hc12 true) (sub_withB true hil HPE.out HSUB2.out) ⟨Nat.le_trans HFEW.out.1 (Nat.le_succ _), by show s.nodes + 1 ≤ 200; omega, HFEW.out.2.2⟩ HOPN.out HMOST.out
                have hih2 := fun (s' : Fnd) (hf : Few p.bounds.length s') (ho : s'.opn = false) (hm : (s'.sols.length : Int) < most) (sv bv : Value) (V : World) (B' : Nat) => HIH.out (withB al2 i e false) s' sv bv V B' (by rw [← padB_with e false hil]; omega) (by rw [withB_length]; exact hl2) (H122.out.with hc12 false) (sub_withB false hil HPE.out HSUB2.out) hf ho hm
                obtain ⟨Q, hQ⟩ : ∃ Q, Q = nodeR p most k (padB (withB al2 i e true)) { s with nodes := s.nodes + 1 } := ⟨_, rfl⟩
                simp only [← hQ] at hq hfl hfq hih
                have HQ := Lib.hid hq; have HFL := Lib.hid hfl; have HFQ := Lib.hid hfq; have HI1 := Lib.hid hih; have HI2 := Lib.hid hih2
                clear hq hfl hfq hih hih2 hQ HIH HPE HC HLO HV hn1 hn2 hk hop2
                have hu64 := H122.out.u64
                have HU64 := Lib.hid hu64
                clear hu64
                go_wp2_with fail
                refine wp_region_held_drew (S := HeldN (.slice ba p.bounds.length bc) (.slice ra p.rules.length rc) (.slice (some ⟨ga, 0, none⟩) p.bounds.length ac) al2 base W1.heap.size p.bounds.length w) (by kernel_rfl) ⟨heap_later HN2.out.prob (Below.drewn HB4.out) (Array.getElem?_eq_some_iff.1 HN2.out.prob).1, HN2.out.kept.below (Below.drewn HB4.out), own_ck HAV.out (CK.below (Below.drewn HB4.out))⟩ (fun hHeld => ?_)
                change wpAnyH _ _ nodeAOps _ _ _ _ _ _
                refine abs_anyHS (fun Z => Below w2.heap.size w2 Z) (Below.drewn HB4.out) hHeld ?_
                clear hHeld
                rintro V hbV hHeld
                have hnV := HN2.out.below hbV
                have HNV := Lib.hid hnV
                have SL := Lib.hid (fun (Z : World) (h : HeldN (.slice ba p.bounds.length bc) (.slice ra p.rules.length rc) (.slice (some ⟨ga, 0, none⟩) p.bounds.length ac) al2 base W1.heap.size p.bounds.length w Z) => h.cells)
                clear hbV hnV
                refine wpAnyH_take (i := 1) (oi := { dst := some 93, op := Op.move (Operand.tmp 7), type := 22, pos := "ref.go:334", after := #[], guard := none }) (v := ?_) rfl (by kernel_rfl) (by kernel_rfl) (by kernel_rfl) (fun _ _ _ h => h) (Or.inl ⟨by kernel_rfl, ?_⟩) hHeld ?_
                rotate_left
                · intro w hSw
                  clear hSw
                  go_simp
                  try with_reducible rfl
                try simp only [Act.put, List.setIfInBounds_toArray, List.set_cons_zero, List.set_cons_succ]
                refine wpAnyH_take (i := 2) (oi := { dst := some 94, op := Op.move (Operand.tmp 10), type := 3, pos := "ref.go:334", after := #[], guard := none }) (v := ?_) rfl (by kernel_rfl) (by kernel_rfl) (by kernel_rfl) (fun _ _ _ h => h) (Or.inl ⟨by kernel_rfl, ?_⟩) hHeld ?_
                rotate_left
                · intro w hSw
                  clear hSw
                  go_simp
                  try with_reducible rfl
                try simp only [Act.put, List.setIfInBounds_toArray, List.set_cons_zero, List.set_cons_succ]
                refine wpAnyH_take (i := 3) (oi := { dst := some 95, op := Op.move (Operand.tmp 13), type := 3, pos := "ref.go:334", after := #[], guard := none }) (v := ?_) rfl (by kernel_rfl) (by kernel_rfl) (by kernel_rfl) (fun _ _ _ h => h) (Or.inl ⟨by kernel_rfl, ?_⟩) hHeld ?_
                rotate_left
                · intro w hSw
                  clear hSw
                  go_simp
                  try with_reducible rfl
                try simp only [Act.put, List.setIfInBounds_toArray, List.set_cons_zero, List.set_cons_succ]
                refine wpAnyH_take (i := 5) (oi := { dst := some 97, op := Op.fieldAddr 25 (Operand.tmp 4) 1, type := 0, pos := "ref.go:334", after := #[], guard := none }) (v := ?_) rfl (by kernel_rfl) (by kernel_rfl) (by kernel_rfl) (fun _ _ _ h => h) (Or.inl ⟨by kernel_rfl, ?_⟩) hHeld ?_
                rotate_left
                · intro w hSw
                  clear hSw
                  go_simp
                  try with_reducible rfl
                try simp only [Act.put, List.setIfInBounds_toArray, List.set_cons_zero, List.set_cons_succ]
                refine wpAnyH_take (i := 6) (oi := { dst := some 98, op := Op.load 23 (Operand.tmp 97), type := 23, pos := "ref.go:334", after := #[{ on := 5, ground := Ground.data }], guard := none }) (v := ?_) rfl (by kernel_rfl) (by kernel_rfl) (by kernel_rfl) (fun _ _ _ h => h) (Or.inl ⟨by kernel_rfl, ?_⟩) hHeld ?_
                rotate_left
                · intro w hSw
                  obtain ⟨hs0, hs1⟩ := SL.out w hSw
                  clear hSw
                  go_simp
                  try with_reducible rfl
                try simp only [Act.put, List.setIfInBounds_toArray, List.set_cons_zero, List.set_cons_succ]
                refine wpAnyH_take (i := 8) (oi := { dst := some 100, op := Op.move (Operand.tmp 2), type := 3, pos := "ref.go:334", after := #[], guard := none }) (v := ?_) rfl (by kernel_rfl) (by kernel_rfl) (by kernel_rfl) (fun _ _ _ h => h) (Or.inl ⟨by kernel_rfl, ?_⟩) hHeld ?_
                rotate_left
                · intro w hSw
                  clear hSw
                  go_simp
                  try with_reducible rfl
                try simp only [Act.put, List.setIfInBounds_toArray, List.set_cons_zero, List.set_cons_succ]
                refine wpAnyH_ready (rs := [0, 4]) (by kernel_rfl) (by simp) ?_
                have s0 : V.cell? ⟨w.heap.size, 0, none⟩ = some (.slice sa s.sols.length sc) := by rw [cell_of_row _ _ _ _ _ _ HNV.out.srch]; rfl
                have s1 : V.cell? ⟨w.heap.size, 1, none⟩ = some (.int .i64 ((s.nodes : Nat) + 1)) := by rw [cell_of_row _ _ _ _ _ _ HNV.out.srch]; rfl
                have s2 : V.cell? ⟨w.heap.size, 2, none⟩ = some (.bool s.opn) := by rw [cell_of_row _ _ _ _ _ _ HNV.out.srch]; rfl
                refine AllReadyH.cons (o := { dst := some 92, op := Op.load 50 (Operand.tmp 3), type := 50, pos := "ref.go:334", after := #[], guard := none }) rfl (fun K hK => ?_) (AllReadyH.cons (o := { dst := some 96, op := Op.call { callee := Callee.value (Operand.func 79), args := #[Operand.tmp 93, Operand.tmp 94, Operand.tmp 95, Operand.const (Value.bool true)], argTypes := #[22, 3, 3, 4] }, type := 22, pos := "ref.go:334", after := #[{ on := 1, ground := Ground.data }, { on := 2, ground := Ground.data }, { on := 3, ground := Ground.data }], guard := none }) rfl (fun K hK => ?_) AllReadyH.nil)
                · go_simp
                  refine hK.out _ _ (hHeld) (fun hHeld => ?_)
                  clear hK K
                  try simp only [Act.put, List.setIfInBounds_toArray, List.set_cons_zero, List.set_cons_succ]
                  clear s0 s1 s2
                  refine wpAnyH_ready (rs := [4]) (by kernel_rfl) (by simp) ?_
                  refine AllReadyH.cons (o := { dst := some 96, op := Op.call { callee := Callee.value (Operand.func 79), args := #[Operand.tmp 93, Operand.tmp 94, Operand.tmp 95, Operand.const (Value.bool true)], argTypes := #[22, 3, 3, 4] }, type := 22, pos := "ref.go:334", after := #[{ on := 1, ground := Ground.data }, { on := 2, ground := Ground.data }, { on := 3, ground := Ground.data }], guard := none }) rfl (fun K hK => ?_) AllReadyH.nil
                  go_simp
                  refine (refWithOwn_any al2 i e true _ V (B := V.heap.size) (bnds_own hHeld.row hl2 (by omega)) (Nat.le_refl _) (by omega) hil (by omega) HU64.out).mono ?_
                  rintro e1 V2 ⟨bv2, rfl, hbo, hb2⟩
                  rw [hl2] at hbo
                  obtain ⟨b2a, b2c, rfl⟩ := own_form hbo
                  have hnV2 := HNV.out.below hb2
                  have s0 : V2.cell? ⟨w.heap.size, 0, none⟩ = some (.slice sa s.sols.length sc) := by rw [cell_of_row _ _ _ _ _ _ hnV2.srch]; rfl
                  have s1 : V2.cell? ⟨w.heap.size, 1, none⟩ = some (.int .i64 ((s.nodes : Nat) + 1)) := by rw [cell_of_row _ _ _ _ _ _ hnV2.srch]; rfl
                  have s2 : V2.cell? ⟨w.heap.size, 2, none⟩ = some (.bool s.opn) := by rw [cell_of_row _ _ _ _ _ _ hnV2.srch]; first | rfl | (rw [HOP.out]; rfl)
                  have HNV2 := Lib.hid hnV2; have HBO := Lib.hid hbo; have HB2 := Lib.hid hb2
                  clear hnV2 hbo hb2
                  go_wp2_with fail
                  refine hK.out _ _ (hHeld.kpt (KeptT.of_below HB2.out)) (fun hHeld => ?_)
                  clear hK K
                  try simp only [Act.put, List.setIfInBounds_toArray, List.set_cons_zero, List.set_cons_succ]
                  clear s0 s1 s2
                  refine wpAnyH_take (i := 7) (oi := { dst := some 99, op := Op.build 25 #[(0, Operand.tmp 96), (1, Operand.tmp 98)], type := 25, pos := "ref.go:334", after := #[{ on := 4, ground := Ground.data }, { on := 6, ground := Ground.data }], guard := none }) (v := ?_) rfl (by kernel_rfl) (by kernel_rfl) (by kernel_rfl) (fun _ _ _ h => h) (Or.inl ⟨by kernel_rfl, ?_⟩) hHeld ?_
                  rotate_left
                  · intro w hSw
                    clear hSw
                    go_simp
                    try with_reducible rfl
                  try simp only [Act.put, List.setIfInBounds_toArray, List.set_cons_zero, List.set_cons_succ]
                  refine wpAnyH_ready (rs := [9]) (by kernel_rfl) (by simp) ?_
                  refine AllReadyH.cons (o := { dst := some 101, op := Op.call { callee := Callee.value (Operand.func 75), args := #[Operand.tmp 92, Operand.tmp 99, Operand.tmp 100], argTypes := #[50, 25, 3] }, type := 50, pos := "ref.go:334", after := #[{ on := 0, ground := Ground.data }, { on := 7, ground := Ground.data }, { on := 8, ground := Ground.data }, { on := 4, ground := Ground.chain }], guard := none }) rfl (fun K hK => ?_) AllReadyH.nil
                  go_simp
                  have hkv := HNV2.out.kept
                  have hrv2 : Rls V2 B (.slice ra p.rules.length rc) p.rules := HRV.out.below (hkv.toBelow (B := B) hBb (by omega) (fun _ _ h => h)) (Nat.le_refl _)
                  have hcall := HI1.out (.slice sa s.sols.length sc) (.slice b2a p.bounds.length b2c) V2 V2.heap.size HNV2.out.own (bnds_own HBO.out (by rw [withB_length]; exact hl2) (by omega)) (Nat.le_refl _) hrv2 (by have := hkv.size; omega)
                  have HCL := Lib.hid hcall
                  clear hkv hrv2 hcall
                  refine HCL.out.mono ?_
                  rintro e1 V3 ⟨sv3, rfl, hso3, hkp3⟩
                  obtain ⟨a3, c3, rfl⟩ : ∃ a c, sv3 = .slice a Q.2.sols.length c := by obtain ⟨cs0, hc0, _⟩ := hso3; exact own_form hc0
                  have HSO3 := Lib.hid hso3; have HKP3 := Lib.hid hkp3
                  clear hso3 hkp3 HCL HBO HB2
                  go_wp2_with fail
                  refine hK.out _ _ (hHeld.kpt HKP3.out) (fun hHeld => ?_)
                  clear hK K
                  try simp only [Act.put, List.setIfInBounds_toArray, List.set_cons_zero, List.set_cons_succ]
                  have hsr3 := (HNV2.out.kpt (sv' := .slice a3 Q.2.sols.length c3) (s' := Q.2) HKP3.out).2.1
                  have s0 : V3.cell? ⟨w.heap.size, 0, none⟩ = some (.slice sa s.sols.length sc) := by rw [cell_of_row _ _ _ _ _ _ hsr3]; rfl
                  have s1 : V3.cell? ⟨w.heap.size, 1, none⟩ = some (.int .i64 ((s.nodes : Nat) + 1)) := by rw [cell_of_row _ _ _ _ _ _ hsr3]; rfl
                  have s2 : V3.cell? ⟨w.heap.size, 2, none⟩ = some (.bool s.opn) := by rw [cell_of_row _ _ _ _ _ _ hsr3]; rfl
                  have sf0 : V3.frozen? ⟨w.heap.size, 0, none⟩ = false := by simp [World.frozen?, hsr3]
                  have sf1 : V3.frozen? ⟨w.heap.size, 1, none⟩ = false := by simp [World.frozen?, hsr3]
                  have sf2 : V3.frozen? ⟨w.heap.size, 2, none⟩ = false := by simp [World.frozen?, hsr3]
                  have HSR3 := Lib.hid hsr3
                  clear hsr3
                  refine wpAnyH_ready (rs := [10]) (by kernel_rfl) (by simp) ?_
                  refine AllReadyH.cons (o := { dst := none, op := Op.store 50 (Operand.tmp 3) (Operand.tmp 101), type := 0, pos := "ref.go:334", after := #[{ on := 9, ground := Ground.data }, { on := 9, ground := Ground.chain }, { on := 0, ground := Ground.phase }, { on := 1, ground := Ground.phase }, { on := 2, ground := Ground.phase }, { on := 3, ground := Ground.phase }, { on := 4, ground := Ground.phase }, { on := 5, ground := Ground.phase }, { on := 6, ground := Ground.phase }, { on := 7, ground := Ground.phase }, { on := 8, ground := Ground.phase }, { on := 9, ground := Ground.phase }], guard := none }) rfl (fun K hK => ?_) AllReadyH.nil
                  go_simp
                  refine hK.out _ _ (held_set3 hHeld HSR3.out (Nat.le_refl _) (.slice a3 Q.2.sols.length c3) (.int .i64 (Q.2.nodes : Nat)) (.bool Q.2.opn)) (fun hHeld => ?_)
                  clear hK K
                  try simp only [Act.put, List.setIfInBounds_toArray, List.set_cons_zero, List.set_cons_succ]
                  clear s0 s1 s2 sf0 sf1 sf2
                  refine wpAnyH_done (by kernel_rfl) ?_ _
                  have hn4 := nd_set3 (sv' := .slice a3 Q.2.sols.length c3) (s' := Q.2) HNV2.out HKP3.out HSO3.out
                  refine abs_post (fun Z => NdAt (.slice ba p.bounds.length bc) (.slice ra p.rules.length rc) (.slice a3 Q.2.sols.length c3) Q.2 base w Z ∧ Z.ownsRow W1.heap.size 67 2 (.slice (some ⟨ga, 0, none⟩) p.bounds.length ac) p.bounds.length (bCells al2)) ⟨hn4, hHeld.row⟩ ?_
                  clear hn4 hHeld HNV2 HNV SL HSR3 HSO3 HKP3
                  rintro W4 ⟨hn4, hrow4⟩
                  have HN4 := Lib.hid hn4; have HROW4 := Lib.hid hrow4
                  have z4 : w.heap.size < W4.heap.size := (Array.getElem?_eq_some_iff.1 hn4.srch).1
                  clear hn4 hrow4
                  cases hop : Q.2.opn
                  case true =>
                    have HOP := Lib.hid hop
                    have HQ1 : Hid (Q.1 = false) := Lib.hid (by rw [HFL.out, hop]; rfl)
                    have s0 : W4.cell? ⟨w.heap.size, 0, none⟩ = some (.slice a3 Q.2.sols.length c3) := by rw [cell_of_row _ _ _ _ _ _ HN4.out.srch]; rfl
                    have s1 : W4.cell? ⟨w.heap.size, 1, none⟩ = some (.int .i64 ((Q.2.nodes : Nat))) := by rw [cell_of_row _ _ _ _ _ _ HN4.out.srch]; rfl
                    have s2 : W4.cell? ⟨w.heap.size, 2, none⟩ = some (.bool true) := by rw [cell_of_row _ _ _ _ _ _ HN4.out.srch]; first | rfl | (rw [HOP.out]; rfl)
                    clear hop
                    have hres2 : (nodeR p most (k + 1) (padB all) s).2 = Q.2 := by rw [HQ.out, HQ1.out]; rfl
                    have HRES := Lib.hid hres2
                    have r0 : W4.cell? ⟨w.heap.size + 2, 0, none⟩ = some (.slice none 0 0) := by rw [cell_of_row _ _ _ _ _ _ HN4.out.res]; rfl
                    have r1 : W4.cell? ⟨w.heap.size + 2, 1, none⟩ = some (.int .i64 0) := by rw [cell_of_row _ _ _ _ _ _ HN4.out.res]; rfl
                    have r2 : W4.cell? ⟨w.heap.size + 2, 2, none⟩ = some (.bool false) := by rw [cell_of_row _ _ _ _ _ _ HN4.out.res]; rfl
                    have rf0 : W4.frozen? ⟨w.heap.size + 2, 0, none⟩ = false := by simp [World.frozen?, HN4.out.res]
                    have rf1 : W4.frozen? ⟨w.heap.size + 2, 1, none⟩ = false := by simp [World.frozen?, HN4.out.res]
                    have rf2 : W4.frozen? ⟨w.heap.size + 2, 2, none⟩ = false := by simp [World.frozen?, HN4.out.res]
                    have zr : w.heap.size + 2 < W4.heap.size := (Array.getElem?_eq_some_iff.1 HN4.out.res).1
                    have HRET := Lib.hid (nd_ret (x := .slice a3 Q.2.sols.length c3) (y := .int .i64 (Q.2.nodes : Nat)) (z := .bool Q.2.opn) HN4.out.res HN4.out.own HN4.out.kept)
                    rw [HOP.out] at HRET
                    clear hres2 HN4 HI2 HI1 HFQ HQ
                    go_wp2
                    rw [HRES.out]
                    exact bodyPost_ret (results_cell1 (p := 6) (ty := 50) rfl rfl HRET.out.1) rfl ⟨_, by rw [HOP.out], HRET.out.2.1, HRET.out.2.2⟩
                  case false =>
                    have HOP := Lib.hid hop
                    have s0 : W4.cell? ⟨w.heap.size, 0, none⟩ = some (.slice a3 Q.2.sols.length c3) := by rw [cell_of_row _ _ _ _ _ _ HN4.out.srch]; rfl
                    have s1 : W4.cell? ⟨w.heap.size, 1, none⟩ = some (.int .i64 ((Q.2.nodes : Nat))) := by rw [cell_of_row _ _ _ _ _ _ HN4.out.srch]; rfl
                    have s2 : W4.cell? ⟨w.heap.size, 2, none⟩ = some (.bool false) := by rw [cell_of_row _ _ _ _ _ _ HN4.out.srch]; first | rfl | (rw [HOP.out]; rfl)
                    clear hop
                    by_cases hm : (Q.2.sols.length : Int) < most
                    · have HM := Lib.hid hm
                      have HQ1 : Hid (Q.1 = true) := Lib.hid (by rw [HFL.out, HOP.out, decide_eq_true hm]; rfl)
                      have hm2 : ¬ most ≤ ((Q.2.sols.length : Nat) : Int) := by omega
                      clear hm
                      go_wp2_with fail
                      clear s0 s1 s2 hm2
                      refine wp_region_held_drew (S := HeldN (.slice ba p.bounds.length bc) (.slice ra p.rules.length rc) (.slice (some ⟨ga, 0, none⟩) p.bounds.length ac) al2 base W1.heap.size p.bounds.length w) (by kernel_rfl) ⟨heap_later HN4.out.prob (Below.drewn (Below.refl W4.heap.size W4)) (Array.getElem?_eq_some_iff.1 HN4.out.prob).1, HN4.out.kept.below (Below.drewn (Below.refl W4.heap.size W4)), own_ck HROW4.out (CK.below (Below.drewn (Below.refl W4.heap.size W4)))⟩ (fun hHeld => ?_)
                      change wpAnyH _ _ nodeBOps _ _ _ _ _ _
                      refine abs_anyHS (fun Z => Below W4.heap.size W4 Z) (Below.drewn (Below.refl W4.heap.size W4)) hHeld ?_
                      clear hHeld
                      rintro V hbV hHeld
                      have hnV := HN4.out.below hbV
                      have HNV := Lib.hid hnV
                      have SL := Lib.hid (fun (Z : World) (h : HeldN (.slice ba p.bounds.length bc) (.slice ra p.rules.length rc) (.slice (some ⟨ga, 0, none⟩) p.bounds.length ac) al2 base W1.heap.size p.bounds.length w Z) => h.cells)
                      clear hbV hnV HN4 HROW4 HI1
                      refine wpAnyH_take (i := 1) (oi := { dst := some 113, op := Op.move (Operand.tmp 7), type := 22, pos := "ref.go:338", after := #[], guard := none }) (v := ?_) rfl (by kernel_rfl) (by kernel_rfl) (by kernel_rfl) (fun _ _ _ h => h) (Or.inl ⟨by kernel_rfl, ?_⟩) hHeld ?_
                      rotate_left
                      · intro w hSw
                        clear hSw
                        go_simp
                        try with_reducible rfl
                      try simp only [Act.put, List.setIfInBounds_toArray, List.set_cons_zero, List.set_cons_succ]
                      refine wpAnyH_take (i := 2) (oi := { dst := some 114, op := Op.move (Operand.tmp 10), type := 3, pos := "ref.go:338", after := #[], guard := none }) (v := ?_) rfl (by kernel_rfl) (by kernel_rfl) (by kernel_rfl) (fun _ _ _ h => h) (Or.inl ⟨by kernel_rfl, ?_⟩) hHeld ?_
                      rotate_left
                      · intro w hSw
                        clear hSw
                        go_simp
                        try with_reducible rfl
                      try simp only [Act.put, List.setIfInBounds_toArray, List.set_cons_zero, List.set_cons_succ]
                      refine wpAnyH_take (i := 3) (oi := { dst := some 115, op := Op.move (Operand.tmp 13), type := 3, pos := "ref.go:338", after := #[], guard := none }) (v := ?_) rfl (by kernel_rfl) (by kernel_rfl) (by kernel_rfl) (fun _ _ _ h => h) (Or.inl ⟨by kernel_rfl, ?_⟩) hHeld ?_
                      rotate_left
                      · intro w hSw
                        clear hSw
                        go_simp
                        try with_reducible rfl
                      try simp only [Act.put, List.setIfInBounds_toArray, List.set_cons_zero, List.set_cons_succ]
                      refine wpAnyH_take (i := 5) (oi := { dst := some 117, op := Op.fieldAddr 25 (Operand.tmp 4) 1, type := 0, pos := "ref.go:338", after := #[], guard := none }) (v := ?_) rfl (by kernel_rfl) (by kernel_rfl) (by kernel_rfl) (fun _ _ _ h => h) (Or.inl ⟨by kernel_rfl, ?_⟩) hHeld ?_
                      rotate_left
                      · intro w hSw
                        clear hSw
                        go_simp
                        try with_reducible rfl
                      try simp only [Act.put, List.setIfInBounds_toArray, List.set_cons_zero, List.set_cons_succ]
                      refine wpAnyH_take (i := 6) (oi := { dst := some 118, op := Op.load 23 (Operand.tmp 117), type := 23, pos := "ref.go:338", after := #[{ on := 5, ground := Ground.data }], guard := none }) (v := ?_) rfl (by kernel_rfl) (by kernel_rfl) (by kernel_rfl) (fun _ _ _ h => h) (Or.inl ⟨by kernel_rfl, ?_⟩) hHeld ?_
                      rotate_left
                      · intro w hSw
                        obtain ⟨hs0, hs1⟩ := SL.out w hSw
                        clear hSw
                        go_simp
                        try with_reducible rfl
                      try simp only [Act.put, List.setIfInBounds_toArray, List.set_cons_zero, List.set_cons_succ]
                      refine wpAnyH_take (i := 8) (oi := { dst := some 120, op := Op.move (Operand.tmp 2), type := 3, pos := "ref.go:338", after := #[], guard := none }) (v := ?_) rfl (by kernel_rfl) (by kernel_rfl) (by kernel_rfl) (fun _ _ _ h => h) (Or.inl ⟨by kernel_rfl, ?_⟩) hHeld ?_
                      rotate_left
                      · intro w hSw
                        clear hSw
                        go_simp
                        try with_reducible rfl
                      try simp only [Act.put, List.setIfInBounds_toArray, List.set_cons_zero, List.set_cons_succ]
                      refine wpAnyH_ready (rs := [0, 4]) (by kernel_rfl) (by simp) ?_
                      have s0 : V.cell? ⟨w.heap.size, 0, none⟩ = some (.slice a3 Q.2.sols.length c3) := by rw [cell_of_row _ _ _ _ _ _ HNV.out.srch]; rfl
                      have s1 : V.cell? ⟨w.heap.size, 1, none⟩ = some (.int .i64 ((Q.2.nodes : Nat))) := by rw [cell_of_row _ _ _ _ _ _ HNV.out.srch]; rfl
                      have s2 : V.cell? ⟨w.heap.size, 2, none⟩ = some (.bool false) := by rw [cell_of_row _ _ _ _ _ _ HNV.out.srch]; first | rfl | (rw [HOP.out]; rfl)
                      refine AllReadyH.cons (o := { dst := some 112, op := Op.load 50 (Operand.tmp 3), type := 50, pos := "ref.go:338", after := #[], guard := none }) rfl (fun K hK => ?_) (AllReadyH.cons (o := { dst := some 116, op := Op.call { callee := Callee.value (Operand.func 79), args := #[Operand.tmp 113, Operand.tmp 114, Operand.tmp 115, Operand.const (Value.bool false)], argTypes := #[22, 3, 3, 4] }, type := 22, pos := "ref.go:338", after := #[{ on := 1, ground := Ground.data }, { on := 2, ground := Ground.data }, { on := 3, ground := Ground.data }], guard := none }) rfl (fun K hK => ?_) AllReadyH.nil)
                      · go_simp
                        refine hK.out _ _ (hHeld) (fun hHeld => ?_)
                        clear hK K
                        try simp only [Act.put, List.setIfInBounds_toArray, List.set_cons_zero, List.set_cons_succ]
                        clear s0 s1 s2
                        refine wpAnyH_ready (rs := [4]) (by kernel_rfl) (by simp) ?_
                        refine AllReadyH.cons (o := { dst := some 116, op := Op.call { callee := Callee.value (Operand.func 79), args := #[Operand.tmp 113, Operand.tmp 114, Operand.tmp 115, Operand.const (Value.bool false)], argTypes := #[22, 3, 3, 4] }, type := 22, pos := "ref.go:338", after := #[{ on := 1, ground := Ground.data }, { on := 2, ground := Ground.data }, { on := 3, ground := Ground.data }], guard := none }) rfl (fun K hK => ?_) AllReadyH.nil
                        go_simp
                        refine (refWithOwn_any al2 i e false _ V (B := V.heap.size) (bnds_own hHeld.row hl2 (by omega)) (Nat.le_refl _) (by omega) hil (by omega) HU64.out).mono ?_
                        rintro e1 V2 ⟨bv2, rfl, hbo, hb2⟩
                        rw [hl2] at hbo
                        obtain ⟨b2a, b2c, rfl⟩ := own_form hbo
                        have hnV2 := HNV.out.below hb2
                        have s0 : V2.cell? ⟨w.heap.size, 0, none⟩ = some (.slice a3 Q.2.sols.length c3) := by rw [cell_of_row _ _ _ _ _ _ hnV2.srch]; rfl
                        have s1 : V2.cell? ⟨w.heap.size, 1, none⟩ = some (.int .i64 ((Q.2.nodes : Nat))) := by rw [cell_of_row _ _ _ _ _ _ hnV2.srch]; rfl
                        have s2 : V2.cell? ⟨w.heap.size, 2, none⟩ = some (.bool false) := by rw [cell_of_row _ _ _ _ _ _ hnV2.srch]; first | rfl | (rw [HOP.out]; rfl)
                        have HNV2 := Lib.hid hnV2; have HBO := Lib.hid hbo; have HB2 := Lib.hid hb2
                        clear hnV2 hbo hb2
                        go_wp2_with fail
                        refine hK.out _ _ (hHeld.kpt (KeptT.of_below HB2.out)) (fun hHeld => ?_)
                        clear hK K
                        try simp only [Act.put, List.setIfInBounds_toArray, List.set_cons_zero, List.set_cons_succ]
                        clear s0 s1 s2
                        refine wpAnyH_take (i := 7) (oi := { dst := some 119, op := Op.build 25 #[(0, Operand.tmp 116), (1, Operand.tmp 118)], type := 25, pos := "ref.go:338", after := #[{ on := 4, ground := Ground.data }, { on := 6, ground := Ground.data }], guard := none }) (v := ?_) rfl (by kernel_rfl) (by kernel_rfl) (by kernel_rfl) (fun _ _ _ h => h) (Or.inl ⟨by kernel_rfl, ?_⟩) hHeld ?_
                        rotate_left
                        · intro w hSw
                          clear hSw
                          go_simp
                          try with_reducible rfl
                        try simp only [Act.put, List.setIfInBounds_toArray, List.set_cons_zero, List.set_cons_succ]
                        refine wpAnyH_ready (rs := [9]) (by kernel_rfl) (by simp) ?_
                        refine AllReadyH.cons (o := { dst := some 121, op := Op.call { callee := Callee.value (Operand.func 75), args := #[Operand.tmp 112, Operand.tmp 119, Operand.tmp 120], argTypes := #[50, 25, 3] }, type := 50, pos := "ref.go:338", after := #[{ on := 0, ground := Ground.data }, { on := 7, ground := Ground.data }, { on := 8, ground := Ground.data }, { on := 4, ground := Ground.chain }], guard := none }) rfl (fun K hK => ?_) AllReadyH.nil
                        go_simp
                        have hkv := HNV2.out.kept
                        have hrv2 : Rls V2 B (.slice ra p.rules.length rc) p.rules := HRV.out.below (hkv.toBelow (B := B) hBb (by omega) (fun _ _ h => h)) (Nat.le_refl _)
                        have hcall := HI2.out Q.2 HFQ.out HOP.out HM.out (.slice a3 Q.2.sols.length c3) (.slice b2a p.bounds.length b2c) V2 V2.heap.size HNV2.out.own (bnds_own HBO.out (by rw [withB_length]; exact hl2) (by omega)) (Nat.le_refl _) hrv2 (by have := hkv.size; omega)
                        rw [HOP.out] at hcall
                        obtain ⟨T, hT⟩ : ∃ T, T = (nodeR p most k (padB (withB al2 i e false)) Q.2).2 := ⟨_, rfl⟩
                        have hres2 : (nodeR p most (k + 1) (padB all) s).2 = T := by rw [HQ.out, HQ1.out, if_pos rfl, hT]
                        rw [← hT] at hcall
                        have HRES := Lib.hid hres2
                        have HCL := Lib.hid hcall
                        clear hkv hrv2 hcall hres2 hT
                        refine HCL.out.mono ?_
                        rintro e1 V5 ⟨sv5, rfl, hso5, hkp5⟩
                        obtain ⟨a5, c5, rfl⟩ : ∃ a c, sv5 = .slice a T.sols.length c := by obtain ⟨cs0, hc0, _⟩ := hso5; exact own_form hc0
                        have HSO5 := Lib.hid hso5; have HKP5 := Lib.hid hkp5
                        clear hso5 hkp5 HCL HBO HB2
                        go_wp2_with fail
                        refine hK.out _ _ (hHeld.kpt HKP5.out) (fun hHeld => ?_)
                        clear hK K
                        try simp only [Act.put, List.setIfInBounds_toArray, List.set_cons_zero, List.set_cons_succ]
                        have hk5 := HNV2.out.kpt (sv' := .slice a5 T.sols.length c5) (s' := T) HKP5.out
                        have hsr5 := hk5.2.2.2
                        have r0 : V5.cell? ⟨w.heap.size + 2, 0, none⟩ = some (.slice none 0 0) := by rw [cell_of_row _ _ _ _ _ _ hsr5]; rfl
                        have r1 : V5.cell? ⟨w.heap.size + 2, 1, none⟩ = some (.int .i64 0) := by rw [cell_of_row _ _ _ _ _ _ hsr5]; rfl
                        have r2 : V5.cell? ⟨w.heap.size + 2, 2, none⟩ = some (.bool false) := by rw [cell_of_row _ _ _ _ _ _ hsr5]; rfl
                        have rf0 : V5.frozen? ⟨w.heap.size + 2, 0, none⟩ = false := by simp [World.frozen?, hsr5]
                        have rf1 : V5.frozen? ⟨w.heap.size + 2, 1, none⟩ = false := by simp [World.frozen?, hsr5]
                        have rf2 : V5.frozen? ⟨w.heap.size + 2, 2, none⟩ = false := by simp [World.frozen?, hsr5]
                        have HSR5 := Lib.hid hsr5
                        have HRET := Lib.hid (nd_ret (x := .slice a5 T.sols.length c5) (y := .int .i64 (T.nodes : Nat)) (z := .bool T.opn) hsr5 HSO5.out hk5.1)
                        clear hsr5 hk5
                        refine wpAnyH_ready (rs := [10]) (by kernel_rfl) (by simp) ?_
                        refine AllReadyH.cons (o := { dst := none, op := Op.store 50 (Operand.tmp 6) (Operand.tmp 121), type := 0, pos := "ref.go:338", after := #[{ on := 9, ground := Ground.data }, { on := 9, ground := Ground.chain }, { on := 0, ground := Ground.phase }, { on := 1, ground := Ground.phase }, { on := 2, ground := Ground.phase }, { on := 3, ground := Ground.phase }, { on := 4, ground := Ground.phase }, { on := 5, ground := Ground.phase }, { on := 6, ground := Ground.phase }, { on := 7, ground := Ground.phase }, { on := 8, ground := Ground.phase }, { on := 9, ground := Ground.phase }], guard := none }) rfl (fun K hK => ?_) AllReadyH.nil
                        go_simp
                        refine hK.out _ _ (held_set3 hHeld HSR5.out (by omega) (.slice a5 T.sols.length c5) (.int .i64 (T.nodes : Nat)) (.bool T.opn)) (fun hHeld => ?_)
                        clear hK K
                        try simp only [Act.put, List.setIfInBounds_toArray, List.set_cons_zero, List.set_cons_succ]
                        clear r0 r1 r2 rf0 rf1 rf2
                        refine wpAnyH_done (by kernel_rfl) ?_ _
                        clear hHeld HNV2 HNV SL HSR5 HSO5 HKP5 HI2 HQ HFQ
                        go_wp2
                        rw [HRES.out]
                        exact bodyPost_ret (results_cell1 (p := 6) (ty := 50) rfl rfl HRET.out.1) rfl ⟨_, rfl, HRET.out.2.1, HRET.out.2.2⟩
                      · clear s0 s1 s2
                        go_simp
                        refine (refWithOwn_any al2 i e false _ V (B := V.heap.size) (bnds_own hHeld.row hl2 (by omega)) (Nat.le_refl _) (by omega) hil (by omega) HU64.out).mono ?_
                        rintro e1 V2 ⟨bv2, rfl, hbo, hb2⟩
                        rw [hl2] at hbo
                        obtain ⟨b2a, b2c, rfl⟩ := own_form hbo
                        have hnV2 := HNV.out.below hb2
                        have s0 : V2.cell? ⟨w.heap.size, 0, none⟩ = some (.slice a3 Q.2.sols.length c3) := by rw [cell_of_row _ _ _ _ _ _ hnV2.srch]; rfl
                        have s1 : V2.cell? ⟨w.heap.size, 1, none⟩ = some (.int .i64 ((Q.2.nodes : Nat))) := by rw [cell_of_row _ _ _ _ _ _ hnV2.srch]; rfl
                        have s2 : V2.cell? ⟨w.heap.size, 2, none⟩ = some (.bool false) := by rw [cell_of_row _ _ _ _ _ _ hnV2.srch]; first | rfl | (rw [HOP.out]; rfl)
                        have HNV2 := Lib.hid hnV2; have HBO := Lib.hid hbo; have HB2 := Lib.hid hb2
                        clear hnV2 hbo hb2
                        go_wp2_with fail
                        refine hK.out _ _ (hHeld.kpt (KeptT.of_below HB2.out)) (fun hHeld => ?_)
                        clear hK K
                        try simp only [Act.put, List.setIfInBounds_toArray, List.set_cons_zero, List.set_cons_succ]
                        refine wpAnyH_take (i := 7) (oi := { dst := some 119, op := Op.build 25 #[(0, Operand.tmp 116), (1, Operand.tmp 118)], type := 25, pos := "ref.go:338", after := #[{ on := 4, ground := Ground.data }, { on := 6, ground := Ground.data }], guard := none }) (v := ?_) rfl (by kernel_rfl) (by kernel_rfl) (by kernel_rfl) (fun _ _ _ h => h) (Or.inl ⟨by kernel_rfl, ?_⟩) hHeld ?_
                        rotate_left
                        · intro w hSw
                          clear hSw
                          go_simp
                          try with_reducible rfl
                        try simp only [Act.put, List.setIfInBounds_toArray, List.set_cons_zero, List.set_cons_succ]
                        refine wpAnyH_ready (rs := [0]) (by kernel_rfl) (by simp) ?_
                        refine AllReadyH.cons (o := { dst := some 112, op := Op.load 50 (Operand.tmp 3), type := 50, pos := "ref.go:338", after := #[], guard := none }) rfl (fun K hK => ?_) AllReadyH.nil
                        go_simp
                        refine hK.out _ _ (hHeld) (fun hHeld => ?_)
                        clear hK K
                        try simp only [Act.put, List.setIfInBounds_toArray, List.set_cons_zero, List.set_cons_succ]
                        clear s0 s1 s2
                        refine wpAnyH_ready (rs := [9]) (by kernel_rfl) (by simp) ?_
                        refine AllReadyH.cons (o := { dst := some 121, op := Op.call { callee := Callee.value (Operand.func 75), args := #[Operand.tmp 112, Operand.tmp 119, Operand.tmp 120], argTypes := #[50, 25, 3] }, type := 50, pos := "ref.go:338", after := #[{ on := 0, ground := Ground.data }, { on := 7, ground := Ground.data }, { on := 8, ground := Ground.data }, { on := 4, ground := Ground.chain }], guard := none }) rfl (fun K hK => ?_) AllReadyH.nil
                        go_simp
                        have hkv := HNV2.out.kept
                        have hrv2 : Rls V2 B (.slice ra p.rules.length rc) p.rules := HRV.out.below (hkv.toBelow (B := B) hBb (by omega) (fun _ _ h => h)) (Nat.le_refl _)
                        have hcall := HI2.out Q.2 HFQ.out HOP.out HM.out (.slice a3 Q.2.sols.length c3) (.slice b2a p.bounds.length b2c) V2 V2.heap.size HNV2.out.own (bnds_own HBO.out (by rw [withB_length]; exact hl2) (by omega)) (Nat.le_refl _) hrv2 (by have := hkv.size; omega)
                        rw [HOP.out] at hcall
                        obtain ⟨T, hT⟩ : ∃ T, T = (nodeR p most k (padB (withB al2 i e false)) Q.2).2 := ⟨_, rfl⟩
                        have hres2 : (nodeR p most (k + 1) (padB all) s).2 = T := by rw [HQ.out, HQ1.out, if_pos rfl, hT]
                        rw [← hT] at hcall
                        have HRES := Lib.hid hres2
                        have HCL := Lib.hid hcall
                        clear hkv hrv2 hcall hres2 hT
                        refine HCL.out.mono ?_
                        rintro e1 V5 ⟨sv5, rfl, hso5, hkp5⟩
                        obtain ⟨a5, c5, rfl⟩ : ∃ a c, sv5 = .slice a T.sols.length c := by obtain ⟨cs0, hc0, _⟩ := hso5; exact own_form hc0
                        have HSO5 := Lib.hid hso5; have HKP5 := Lib.hid hkp5
                        clear hso5 hkp5 HCL HBO HB2
                        go_wp2_with fail
                        refine hK.out _ _ (hHeld.kpt HKP5.out) (fun hHeld => ?_)
                        clear hK K
                        try simp only [Act.put, List.setIfInBounds_toArray, List.set_cons_zero, List.set_cons_succ]
                        have hk5 := HNV2.out.kpt (sv' := .slice a5 T.sols.length c5) (s' := T) HKP5.out
                        have hsr5 := hk5.2.2.2
                        have r0 : V5.cell? ⟨w.heap.size + 2, 0, none⟩ = some (.slice none 0 0) := by rw [cell_of_row _ _ _ _ _ _ hsr5]; rfl
                        have r1 : V5.cell? ⟨w.heap.size + 2, 1, none⟩ = some (.int .i64 0) := by rw [cell_of_row _ _ _ _ _ _ hsr5]; rfl
                        have r2 : V5.cell? ⟨w.heap.size + 2, 2, none⟩ = some (.bool false) := by rw [cell_of_row _ _ _ _ _ _ hsr5]; rfl
                        have rf0 : V5.frozen? ⟨w.heap.size + 2, 0, none⟩ = false := by simp [World.frozen?, hsr5]
                        have rf1 : V5.frozen? ⟨w.heap.size + 2, 1, none⟩ = false := by simp [World.frozen?, hsr5]
                        have rf2 : V5.frozen? ⟨w.heap.size + 2, 2, none⟩ = false := by simp [World.frozen?, hsr5]
                        have HSR5 := Lib.hid hsr5
                        have HRET := Lib.hid (nd_ret (x := .slice a5 T.sols.length c5) (y := .int .i64 (T.nodes : Nat)) (z := .bool T.opn) hsr5 HSO5.out hk5.1)
                        clear hsr5 hk5
                        refine wpAnyH_ready (rs := [10]) (by kernel_rfl) (by simp) ?_
                        refine AllReadyH.cons (o := { dst := none, op := Op.store 50 (Operand.tmp 6) (Operand.tmp 121), type := 0, pos := "ref.go:338", after := #[{ on := 9, ground := Ground.data }, { on := 9, ground := Ground.chain }, { on := 0, ground := Ground.phase }, { on := 1, ground := Ground.phase }, { on := 2, ground := Ground.phase }, { on := 3, ground := Ground.phase }, { on := 4, ground := Ground.phase }, { on := 5, ground := Ground.phase }, { on := 6, ground := Ground.phase }, { on := 7, ground := Ground.phase }, { on := 8, ground := Ground.phase }, { on := 9, ground := Ground.phase }], guard := none }) rfl (fun K hK => ?_) AllReadyH.nil
                        go_simp
                        refine hK.out _ _ (held_set3 hHeld HSR5.out (by omega) (.slice a5 T.sols.length c5) (.int .i64 (T.nodes : Nat)) (.bool T.opn)) (fun hHeld => ?_)
                        clear hK K
                        try simp only [Act.put, List.setIfInBounds_toArray, List.set_cons_zero, List.set_cons_succ]
                        clear r0 r1 r2 rf0 rf1 rf2
                        refine wpAnyH_done (by kernel_rfl) ?_ _
                        clear hHeld HNV2 HNV SL HSR5 HSO5 HKP5 HI2 HQ HFQ
                        go_wp2
                        rw [HRES.out]
                        exact bodyPost_ret (results_cell1 (p := 6) (ty := 50) rfl rfl HRET.out.1) rfl ⟨_, rfl, HRET.out.2.1, HRET.out.2.2⟩
                    · have HQ1 : Hid (Q.1 = false) := Lib.hid (by rw [HFL.out, decide_eq_false hm, Bool.and_false])
                      have hm2 : most ≤ ((Q.2.sols.length : Nat) : Int) := by omega
                      clear hm
                      have hres2 : (nodeR p most (k + 1) (padB all) s).2 = Q.2 := by rw [HQ.out, HQ1.out]; rfl
                      have HRES := Lib.hid hres2
                      have r0 : W4.cell? ⟨w.heap.size + 2, 0, none⟩ = some (.slice none 0 0) := by rw [cell_of_row _ _ _ _ _ _ HN4.out.res]; rfl
                      have r1 : W4.cell? ⟨w.heap.size + 2, 1, none⟩ = some (.int .i64 0) := by rw [cell_of_row _ _ _ _ _ _ HN4.out.res]; rfl
                      have r2 : W4.cell? ⟨w.heap.size + 2, 2, none⟩ = some (.bool false) := by rw [cell_of_row _ _ _ _ _ _ HN4.out.res]; rfl
                      have rf0 : W4.frozen? ⟨w.heap.size + 2, 0, none⟩ = false := by simp [World.frozen?, HN4.out.res]
                      have rf1 : W4.frozen? ⟨w.heap.size + 2, 1, none⟩ = false := by simp [World.frozen?, HN4.out.res]
                      have rf2 : W4.frozen? ⟨w.heap.size + 2, 2, none⟩ = false := by simp [World.frozen?, HN4.out.res]
                      have zr : w.heap.size + 2 < W4.heap.size := (Array.getElem?_eq_some_iff.1 HN4.out.res).1
                      have HRET := Lib.hid (nd_ret (x := .slice a3 Q.2.sols.length c3) (y := .int .i64 (Q.2.nodes : Nat)) (z := .bool Q.2.opn) HN4.out.res HN4.out.own HN4.out.kept)
                      rw [HOP.out] at HRET
                      clear hres2 HN4 HI2 HI1 HFQ HQ
                      go_wp2
                      rw [HRES.out]
                      exact bodyPost_ret (results_cell1 (p := 6) (ty := 50) rfl rfl HRET.out.1) rfl ⟨_, by rw [HOP.out], HRET.out.2.1, HRET.out.2.2⟩
                · clear s0 s1 s2
                  go_simp
                  refine (refWithOwn_any al2 i e true _ V (B := V.heap.size) (bnds_own hHeld.row hl2 (by omega)) (Nat.le_refl _) (by omega) hil (by omega) HU64.out).mono ?_
                  rintro e1 V2 ⟨bv2, rfl, hbo, hb2⟩
                  rw [hl2] at hbo
                  obtain ⟨b2a, b2c, rfl⟩ := own_form hbo
                  have hnV2 := HNV.out.below hb2
                  have s0 : V2.cell? ⟨w.heap.size, 0, none⟩ = some (.slice sa s.sols.length sc) := by rw [cell_of_row _ _ _ _ _ _ hnV2.srch]; rfl
                  have s1 : V2.cell? ⟨w.heap.size, 1, none⟩ = some (.int .i64 ((s.nodes : Nat) + 1)) := by rw [cell_of_row _ _ _ _ _ _ hnV2.srch]; rfl
                  have s2 : V2.cell? ⟨w.heap.size, 2, none⟩ = some (.bool s.opn) := by rw [cell_of_row _ _ _ _ _ _ hnV2.srch]; first | rfl | (rw [HOP.out]; rfl)
                  have HNV2 := Lib.hid hnV2; have HBO := Lib.hid hbo; have HB2 := Lib.hid hb2
                  clear hnV2 hbo hb2
                  go_wp2_with fail
                  refine hK.out _ _ (hHeld.kpt (KeptT.of_below HB2.out)) (fun hHeld => ?_)
                  clear hK K
                  try simp only [Act.put, List.setIfInBounds_toArray, List.set_cons_zero, List.set_cons_succ]
                  refine wpAnyH_take (i := 7) (oi := { dst := some 99, op := Op.build 25 #[(0, Operand.tmp 96), (1, Operand.tmp 98)], type := 25, pos := "ref.go:334", after := #[{ on := 4, ground := Ground.data }, { on := 6, ground := Ground.data }], guard := none }) (v := ?_) rfl (by kernel_rfl) (by kernel_rfl) (by kernel_rfl) (fun _ _ _ h => h) (Or.inl ⟨by kernel_rfl, ?_⟩) hHeld ?_
                  rotate_left
                  · intro w hSw
                    clear hSw
                    go_simp
                    try with_reducible rfl
                  try simp only [Act.put, List.setIfInBounds_toArray, List.set_cons_zero, List.set_cons_succ]
                  refine wpAnyH_ready (rs := [0]) (by kernel_rfl) (by simp) ?_
                  refine AllReadyH.cons (o := { dst := some 92, op := Op.load 50 (Operand.tmp 3), type := 50, pos := "ref.go:334", after := #[], guard := none }) rfl (fun K hK => ?_) AllReadyH.nil
                  go_simp
                  refine hK.out _ _ (hHeld) (fun hHeld => ?_)
                  clear hK K
                  try simp only [Act.put, List.setIfInBounds_toArray, List.set_cons_zero, List.set_cons_succ]
                  clear s0 s1 s2
                  refine wpAnyH_ready (rs := [9]) (by kernel_rfl) (by simp) ?_
                  refine AllReadyH.cons (o := { dst := some 101, op := Op.call { callee := Callee.value (Operand.func 75), args := #[Operand.tmp 92, Operand.tmp 99, Operand.tmp 100], argTypes := #[50, 25, 3] }, type := 50, pos := "ref.go:334", after := #[{ on := 0, ground := Ground.data }, { on := 7, ground := Ground.data }, { on := 8, ground := Ground.data }, { on := 4, ground := Ground.chain }], guard := none }) rfl (fun K hK => ?_) AllReadyH.nil
                  go_simp
                  have hkv := HNV2.out.kept
                  have hrv2 : Rls V2 B (.slice ra p.rules.length rc) p.rules := HRV.out.below (hkv.toBelow (B := B) hBb (by omega) (fun _ _ h => h)) (Nat.le_refl _)
                  have hcall := HI1.out (.slice sa s.sols.length sc) (.slice b2a p.bounds.length b2c) V2 V2.heap.size HNV2.out.own (bnds_own HBO.out (by rw [withB_length]; exact hl2) (by omega)) (Nat.le_refl _) hrv2 (by have := hkv.size; omega)
                  have HCL := Lib.hid hcall
                  clear hkv hrv2 hcall
                  refine HCL.out.mono ?_
                  rintro e1 V3 ⟨sv3, rfl, hso3, hkp3⟩
                  obtain ⟨a3, c3, rfl⟩ : ∃ a c, sv3 = .slice a Q.2.sols.length c := by obtain ⟨cs0, hc0, _⟩ := hso3; exact own_form hc0
                  have HSO3 := Lib.hid hso3; have HKP3 := Lib.hid hkp3
                  clear hso3 hkp3 HCL HBO HB2
                  go_wp2_with fail
                  refine hK.out _ _ (hHeld.kpt HKP3.out) (fun hHeld => ?_)
                  clear hK K
                  try simp only [Act.put, List.setIfInBounds_toArray, List.set_cons_zero, List.set_cons_succ]
                  have hsr3 := (HNV2.out.kpt (sv' := .slice a3 Q.2.sols.length c3) (s' := Q.2) HKP3.out).2.1
                  have s0 : V3.cell? ⟨w.heap.size, 0, none⟩ = some (.slice sa s.sols.length sc) := by rw [cell_of_row _ _ _ _ _ _ hsr3]; rfl
                  have s1 : V3.cell? ⟨w.heap.size, 1, none⟩ = some (.int .i64 ((s.nodes : Nat) + 1)) := by rw [cell_of_row _ _ _ _ _ _ hsr3]; rfl
                  have s2 : V3.cell? ⟨w.heap.size, 2, none⟩ = some (.bool s.opn) := by rw [cell_of_row _ _ _ _ _ _ hsr3]; rfl
                  have sf0 : V3.frozen? ⟨w.heap.size, 0, none⟩ = false := by simp [World.frozen?, hsr3]
                  have sf1 : V3.frozen? ⟨w.heap.size, 1, none⟩ = false := by simp [World.frozen?, hsr3]
                  have sf2 : V3.frozen? ⟨w.heap.size, 2, none⟩ = false := by simp [World.frozen?, hsr3]
                  have HSR3 := Lib.hid hsr3
                  clear hsr3
                  refine wpAnyH_ready (rs := [10]) (by kernel_rfl) (by simp) ?_
                  refine AllReadyH.cons (o := { dst := none, op := Op.store 50 (Operand.tmp 3) (Operand.tmp 101), type := 0, pos := "ref.go:334", after := #[{ on := 9, ground := Ground.data }, { on := 9, ground := Ground.chain }, { on := 0, ground := Ground.phase }, { on := 1, ground := Ground.phase }, { on := 2, ground := Ground.phase }, { on := 3, ground := Ground.phase }, { on := 4, ground := Ground.phase }, { on := 5, ground := Ground.phase }, { on := 6, ground := Ground.phase }, { on := 7, ground := Ground.phase }, { on := 8, ground := Ground.phase }, { on := 9, ground := Ground.phase }], guard := none }) rfl (fun K hK => ?_) AllReadyH.nil
                  go_simp
                  refine hK.out _ _ (held_set3 hHeld HSR3.out (Nat.le_refl _) (.slice a3 Q.2.sols.length c3) (.int .i64 (Q.2.nodes : Nat)) (.bool Q.2.opn)) (fun hHeld => ?_)
                  clear hK K
                  try simp only [Act.put, List.setIfInBounds_toArray, List.set_cons_zero, List.set_cons_succ]
                  clear s0 s1 s2 sf0 sf1 sf2
                  refine wpAnyH_done (by kernel_rfl) ?_ _
                  have hn4 := nd_set3 (sv' := .slice a3 Q.2.sols.length c3) (s' := Q.2) HNV2.out HKP3.out HSO3.out
                  refine abs_post (fun Z => NdAt (.slice ba p.bounds.length bc) (.slice ra p.rules.length rc) (.slice a3 Q.2.sols.length c3) Q.2 base w Z ∧ Z.ownsRow W1.heap.size 67 2 (.slice (some ⟨ga, 0, none⟩) p.bounds.length ac) p.bounds.length (bCells al2)) ⟨hn4, hHeld.row⟩ ?_
                  clear hn4 hHeld HNV2 HNV SL HSR3 HSO3 HKP3
                  rintro W4 ⟨hn4, hrow4⟩
                  have HN4 := Lib.hid hn4; have HROW4 := Lib.hid hrow4
                  have z4 : w.heap.size < W4.heap.size := (Array.getElem?_eq_some_iff.1 hn4.srch).1
                  clear hn4 hrow4
                  cases hop : Q.2.opn
                  case true =>
                    have HOP := Lib.hid hop
                    have HQ1 : Hid (Q.1 = false) := Lib.hid (by rw [HFL.out, hop]; rfl)
                    have s0 : W4.cell? ⟨w.heap.size, 0, none⟩ = some (.slice a3 Q.2.sols.length c3) := by rw [cell_of_row _ _ _ _ _ _ HN4.out.srch]; rfl
                    have s1 : W4.cell? ⟨w.heap.size, 1, none⟩ = some (.int .i64 ((Q.2.nodes : Nat))) := by rw [cell_of_row _ _ _ _ _ _ HN4.out.srch]; rfl
                    have s2 : W4.cell? ⟨w.heap.size, 2, none⟩ = some (.bool true) := by rw [cell_of_row _ _ _ _ _ _ HN4.out.srch]; first | rfl | (rw [HOP.out]; rfl)
                    clear hop
                    have hres2 : (nodeR p most (k + 1) (padB all) s).2 = Q.2 := by rw [HQ.out, HQ1.out]; rfl
                    have HRES := Lib.hid hres2
                    have r0 : W4.cell? ⟨w.heap.size + 2, 0, none⟩ = some (.slice none 0 0) := by rw [cell_of_row _ _ _ _ _ _ HN4.out.res]; rfl
                    have r1 : W4.cell? ⟨w.heap.size + 2, 1, none⟩ = some (.int .i64 0) := by rw [cell_of_row _ _ _ _ _ _ HN4.out.res]; rfl
                    have r2 : W4.cell? ⟨w.heap.size + 2, 2, none⟩ = some (.bool false) := by rw [cell_of_row _ _ _ _ _ _ HN4.out.res]; rfl
                    have rf0 : W4.frozen? ⟨w.heap.size + 2, 0, none⟩ = false := by simp [World.frozen?, HN4.out.res]
                    have rf1 : W4.frozen? ⟨w.heap.size + 2, 1, none⟩ = false := by simp [World.frozen?, HN4.out.res]
                    have rf2 : W4.frozen? ⟨w.heap.size + 2, 2, none⟩ = false := by simp [World.frozen?, HN4.out.res]
                    have zr : w.heap.size + 2 < W4.heap.size := (Array.getElem?_eq_some_iff.1 HN4.out.res).1
                    have HRET := Lib.hid (nd_ret (x := .slice a3 Q.2.sols.length c3) (y := .int .i64 (Q.2.nodes : Nat)) (z := .bool Q.2.opn) HN4.out.res HN4.out.own HN4.out.kept)
                    rw [HOP.out] at HRET
                    clear hres2 HN4 HI2 HI1 HFQ HQ
                    go_wp2
                    rw [HRES.out]
                    exact bodyPost_ret (results_cell1 (p := 6) (ty := 50) rfl rfl HRET.out.1) rfl ⟨_, by rw [HOP.out], HRET.out.2.1, HRET.out.2.2⟩
                  case false =>
                    have HOP := Lib.hid hop
                    have s0 : W4.cell? ⟨w.heap.size, 0, none⟩ = some (.slice a3 Q.2.sols.length c3) := by rw [cell_of_row _ _ _ _ _ _ HN4.out.srch]; rfl
                    have s1 : W4.cell? ⟨w.heap.size, 1, none⟩ = some (.int .i64 ((Q.2.nodes : Nat))) := by rw [cell_of_row _ _ _ _ _ _ HN4.out.srch]; rfl
                    have s2 : W4.cell? ⟨w.heap.size, 2, none⟩ = some (.bool false) := by rw [cell_of_row _ _ _ _ _ _ HN4.out.srch]; first | rfl | (rw [HOP.out]; rfl)
                    clear hop
                    by_cases hm : (Q.2.sols.length : Int) < most
                    · have HM := Lib.hid hm
                      have HQ1 : Hid (Q.1 = true) := Lib.hid (by rw [HFL.out, HOP.out, decide_eq_true hm]; rfl)
                      have hm2 : ¬ most ≤ ((Q.2.sols.length : Nat) : Int) := by omega
                      clear hm
                      go_wp2_with fail
                      clear s0 s1 s2 hm2
                      refine wp_region_held_drew (S := HeldN (.slice ba p.bounds.length bc) (.slice ra p.rules.length rc) (.slice (some ⟨ga, 0, none⟩) p.bounds.length ac) al2 base W1.heap.size p.bounds.length w) (by kernel_rfl) ⟨heap_later HN4.out.prob (Below.drewn (Below.refl W4.heap.size W4)) (Array.getElem?_eq_some_iff.1 HN4.out.prob).1, HN4.out.kept.below (Below.drewn (Below.refl W4.heap.size W4)), own_ck HROW4.out (CK.below (Below.drewn (Below.refl W4.heap.size W4)))⟩ (fun hHeld => ?_)
                      change wpAnyH _ _ nodeBOps _ _ _ _ _ _
                      refine abs_anyHS (fun Z => Below W4.heap.size W4 Z) (Below.drewn (Below.refl W4.heap.size W4)) hHeld ?_
                      clear hHeld
                      rintro V hbV hHeld
                      have hnV := HN4.out.below hbV
                      have HNV := Lib.hid hnV
                      have SL := Lib.hid (fun (Z : World) (h : HeldN (.slice ba p.bounds.length bc) (.slice ra p.rules.length rc) (.slice (some ⟨ga, 0, none⟩) p.bounds.length ac) al2 base W1.heap.size p.bounds.length w Z) => h.cells)
                      clear hbV hnV HN4 HROW4 HI1
                      refine wpAnyH_take (i := 1) (oi := { dst := some 113, op := Op.move (Operand.tmp 7), type := 22, pos := "ref.go:338", after := #[], guard := none }) (v := ?_) rfl (by kernel_rfl) (by kernel_rfl) (by kernel_rfl) (fun _ _ _ h => h) (Or.inl ⟨by kernel_rfl, ?_⟩) hHeld ?_
                      rotate_left
                      · intro w hSw
                        clear hSw
                        go_simp
                        try with_reducible rfl
                      try simp only [Act.put, List.setIfInBounds_toArray, List.set_cons_zero, List.set_cons_succ]
                      refine wpAnyH_take (i := 2) (oi := { dst := some 114, op := Op.move (Operand.tmp 10), type := 3, pos := "ref.go:338", after := #[], guard := none }) (v := ?_) rfl (by kernel_rfl) (by kernel_rfl) (by kernel_rfl) (fun _ _ _ h => h) (Or.inl ⟨by kernel_rfl, ?_⟩) hHeld ?_
                      rotate_left
                      · intro w hSw
                        clear hSw
                        go_simp
                        try with_reducible rfl
                      try simp only [Act.put, List.setIfInBounds_toArray, List.set_cons_zero, List.set_cons_succ]
                      refine wpAnyH_take (i := 3) (oi := { dst := some 115, op := Op.move (Operand.tmp 13), type := 3, pos := "ref.go:338", after := #[], guard := none }) (v := ?_) rfl (by kernel_rfl) (by kernel_rfl) (by kernel_rfl) (fun _ _ _ h => h) (Or.inl ⟨by kernel_rfl, ?_⟩) hHeld ?_
                      rotate_left
                      · intro w hSw
                        clear hSw
                        go_simp
                        try with_reducible rfl
                      try simp only [Act.put, List.setIfInBounds_toArray, List.set_cons_zero, List.set_cons_succ]
                      refine wpAnyH_take (i := 5) (oi := { dst := some 117, op := Op.fieldAddr 25 (Operand.tmp 4) 1, type := 0, pos := "ref.go:338", after := #[], guard := none }) (v := ?_) rfl (by kernel_rfl) (by kernel_rfl) (by kernel_rfl) (fun _ _ _ h => h) (Or.inl ⟨by kernel_rfl, ?_⟩) hHeld ?_
                      rotate_left
                      · intro w hSw
                        clear hSw
                        go_simp
                        try with_reducible rfl
                      try simp only [Act.put, List.setIfInBounds_toArray, List.set_cons_zero, List.set_cons_succ]
                      refine wpAnyH_take (i := 6) (oi := { dst := some 118, op := Op.load 23 (Operand.tmp 117), type := 23, pos := "ref.go:338", after := #[{ on := 5, ground := Ground.data }], guard := none }) (v := ?_) rfl (by kernel_rfl) (by kernel_rfl) (by kernel_rfl) (fun _ _ _ h => h) (Or.inl ⟨by kernel_rfl, ?_⟩) hHeld ?_
                      rotate_left
                      · intro w hSw
                        obtain ⟨hs0, hs1⟩ := SL.out w hSw
                        clear hSw
                        go_simp
                        try with_reducible rfl
                      try simp only [Act.put, List.setIfInBounds_toArray, List.set_cons_zero, List.set_cons_succ]
                      refine wpAnyH_take (i := 8) (oi := { dst := some 120, op := Op.move (Operand.tmp 2), type := 3, pos := "ref.go:338", after := #[], guard := none }) (v := ?_) rfl (by kernel_rfl) (by kernel_rfl) (by kernel_rfl) (fun _ _ _ h => h) (Or.inl ⟨by kernel_rfl, ?_⟩) hHeld ?_
                      rotate_left
                      · intro w hSw
                        clear hSw
                        go_simp
                        try with_reducible rfl
                      try simp only [Act.put, List.setIfInBounds_toArray, List.set_cons_zero, List.set_cons_succ]
                      refine wpAnyH_ready (rs := [0, 4]) (by kernel_rfl) (by simp) ?_
                      have s0 : V.cell? ⟨w.heap.size, 0, none⟩ = some (.slice a3 Q.2.sols.length c3) := by rw [cell_of_row _ _ _ _ _ _ HNV.out.srch]; rfl
                      have s1 : V.cell? ⟨w.heap.size, 1, none⟩ = some (.int .i64 ((Q.2.nodes : Nat))) := by rw [cell_of_row _ _ _ _ _ _ HNV.out.srch]; rfl
                      have s2 : V.cell? ⟨w.heap.size, 2, none⟩ = some (.bool false) := by rw [cell_of_row _ _ _ _ _ _ HNV.out.srch]; first | rfl | (rw [HOP.out]; rfl)
                      refine AllReadyH.cons (o := { dst := some 112, op := Op.load 50 (Operand.tmp 3), type := 50, pos := "ref.go:338", after := #[], guard := none }) rfl (fun K hK => ?_) (AllReadyH.cons (o := { dst := some 116, op := Op.call { callee := Callee.value (Operand.func 79), args := #[Operand.tmp 113, Operand.tmp 114, Operand.tmp 115, Operand.const (Value.bool false)], argTypes := #[22, 3, 3, 4] }, type := 22, pos := "ref.go:338", after := #[{ on := 1, ground := Ground.data }, { on := 2, ground := Ground.data }, { on := 3, ground := Ground.data }], guard := none }) rfl (fun K hK => ?_) AllReadyH.nil)
                      · go_simp
                        refine hK.out _ _ (hHeld) (fun hHeld => ?_)
                        clear hK K
                        try simp only [Act.put, List.setIfInBounds_toArray, List.set_cons_zero, List.set_cons_succ]
                        clear s0 s1 s2
                        refine wpAnyH_ready (rs := [4]) (by kernel_rfl) (by simp) ?_
                        refine AllReadyH.cons (o := { dst := some 116, op := Op.call { callee := Callee.value (Operand.func 79), args := #[Operand.tmp 113, Operand.tmp 114, Operand.tmp 115, Operand.const (Value.bool false)], argTypes := #[22, 3, 3, 4] }, type := 22, pos := "ref.go:338", after := #[{ on := 1, ground := Ground.data }, { on := 2, ground := Ground.data }, { on := 3, ground := Ground.data }], guard := none }) rfl (fun K hK => ?_) AllReadyH.nil
                        go_simp
                        refine (refWithOwn_any al2 i e false _ V (B := V.heap.size) (bnds_own hHeld.row hl2 (by omega)) (Nat.le_refl _) (by omega) hil (by omega) HU64.out).mono ?_
                        rintro e1 V2 ⟨bv2, rfl, hbo, hb2⟩
                        rw [hl2] at hbo
                        obtain ⟨b2a, b2c, rfl⟩ := own_form hbo
                        have hnV2 := HNV.out.below hb2
                        have s0 : V2.cell? ⟨w.heap.size, 0, none⟩ = some (.slice a3 Q.2.sols.length c3) := by rw [cell_of_row _ _ _ _ _ _ hnV2.srch]; rfl
                        have s1 : V2.cell? ⟨w.heap.size, 1, none⟩ = some (.int .i64 ((Q.2.nodes : Nat))) := by rw [cell_of_row _ _ _ _ _ _ hnV2.srch]; rfl
                        have s2 : V2.cell? ⟨w.heap.size, 2, none⟩ = some (.bool false) := by rw [cell_of_row _ _ _ _ _ _ hnV2.srch]; first | rfl | (rw [HOP.out]; rfl)
                        have HNV2 := Lib.hid hnV2; have HBO := Lib.hid hbo; have HB2 := Lib.hid hb2
                        clear hnV2 hbo hb2
                        go_wp2_with fail
                        refine hK.out _ _ (hHeld.kpt (KeptT.of_below HB2.out)) (fun hHeld => ?_)
                        clear hK K
                        try simp only [Act.put, List.setIfInBounds_toArray, List.set_cons_zero, List.set_cons_succ]
                        clear s0 s1 s2
                        refine wpAnyH_take (i := 7) (oi := { dst := some 119, op := Op.build 25 #[(0, Operand.tmp 116), (1, Operand.tmp 118)], type := 25, pos := "ref.go:338", after := #[{ on := 4, ground := Ground.data }, { on := 6, ground := Ground.data }], guard := none }) (v := ?_) rfl (by kernel_rfl) (by kernel_rfl) (by kernel_rfl) (fun _ _ _ h => h) (Or.inl ⟨by kernel_rfl, ?_⟩) hHeld ?_
                        rotate_left
                        · intro w hSw
                          clear hSw
                          go_simp
                          try with_reducible rfl
                        try simp only [Act.put, List.setIfInBounds_toArray, List.set_cons_zero, List.set_cons_succ]
                        refine wpAnyH_ready (rs := [9]) (by kernel_rfl) (by simp) ?_
                        refine AllReadyH.cons (o := { dst := some 121, op := Op.call { callee := Callee.value (Operand.func 75), args := #[Operand.tmp 112, Operand.tmp 119, Operand.tmp 120], argTypes := #[50, 25, 3] }, type := 50, pos := "ref.go:338", after := #[{ on := 0, ground := Ground.data }, { on := 7, ground := Ground.data }, { on := 8, ground := Ground.data }, { on := 4, ground := Ground.chain }], guard := none }) rfl (fun K hK => ?_) AllReadyH.nil
                        go_simp
                        have hkv := HNV2.out.kept
                        have hrv2 : Rls V2 B (.slice ra p.rules.length rc) p.rules := HRV.out.below (hkv.toBelow (B := B) hBb (by omega) (fun _ _ h => h)) (Nat.le_refl _)
                        have hcall := HI2.out Q.2 HFQ.out HOP.out HM.out (.slice a3 Q.2.sols.length c3) (.slice b2a p.bounds.length b2c) V2 V2.heap.size HNV2.out.own (bnds_own HBO.out (by rw [withB_length]; exact hl2) (by omega)) (Nat.le_refl _) hrv2 (by have := hkv.size; omega)
                        rw [HOP.out] at hcall
                        obtain ⟨T, hT⟩ : ∃ T, T = (nodeR p most k (padB (withB al2 i e false)) Q.2).2 := ⟨_, rfl⟩
                        have hres2 : (nodeR p most (k + 1) (padB all) s).2 = T := by rw [HQ.out, HQ1.out, if_pos rfl, hT]
                        rw [← hT] at hcall
                        have HRES := Lib.hid hres2
                        have HCL := Lib.hid hcall
                        clear hkv hrv2 hcall hres2 hT
                        refine HCL.out.mono ?_
                        rintro e1 V5 ⟨sv5, rfl, hso5, hkp5⟩
                        obtain ⟨a5, c5, rfl⟩ : ∃ a c, sv5 = .slice a T.sols.length c := by obtain ⟨cs0, hc0, _⟩ := hso5; exact own_form hc0
                        have HSO5 := Lib.hid hso5; have HKP5 := Lib.hid hkp5
                        clear hso5 hkp5 HCL HBO HB2
                        go_wp2_with fail
                        refine hK.out _ _ (hHeld.kpt HKP5.out) (fun hHeld => ?_)
                        clear hK K
                        try simp only [Act.put, List.setIfInBounds_toArray, List.set_cons_zero, List.set_cons_succ]
                        have hk5 := HNV2.out.kpt (sv' := .slice a5 T.sols.length c5) (s' := T) HKP5.out
                        have hsr5 := hk5.2.2.2
                        have r0 : V5.cell? ⟨w.heap.size + 2, 0, none⟩ = some (.slice none 0 0) := by rw [cell_of_row _ _ _ _ _ _ hsr5]; rfl
                        have r1 : V5.cell? ⟨w.heap.size + 2, 1, none⟩ = some (.int .i64 0) := by rw [cell_of_row _ _ _ _ _ _ hsr5]; rfl
                        have r2 : V5.cell? ⟨w.heap.size + 2, 2, none⟩ = some (.bool false) := by rw [cell_of_row _ _ _ _ _ _ hsr5]; rfl
                        have rf0 : V5.frozen? ⟨w.heap.size + 2, 0, none⟩ = false := by simp [World.frozen?, hsr5]
                        have rf1 : V5.frozen? ⟨w.heap.size + 2, 1, none⟩ = false := by simp [World.frozen?, hsr5]
                        have rf2 : V5.frozen? ⟨w.heap.size + 2, 2, none⟩ = false := by simp [World.frozen?, hsr5]
                        have HSR5 := Lib.hid hsr5
                        have HRET := Lib.hid (nd_ret (x := .slice a5 T.sols.length c5) (y := .int .i64 (T.nodes : Nat)) (z := .bool T.opn) hsr5 HSO5.out hk5.1)
                        clear hsr5 hk5
                        refine wpAnyH_ready (rs := [10]) (by kernel_rfl) (by simp) ?_
                        refine AllReadyH.cons (o := { dst := none, op := Op.store 50 (Operand.tmp 6) (Operand.tmp 121), type := 0, pos := "ref.go:338", after := #[{ on := 9, ground := Ground.data }, { on := 9, ground := Ground.chain }, { on := 0, ground := Ground.phase }, { on := 1, ground := Ground.phase }, { on := 2, ground := Ground.phase }, { on := 3, ground := Ground.phase }, { on := 4, ground := Ground.phase }, { on := 5, ground := Ground.phase }, { on := 6, ground := Ground.phase }, { on := 7, ground := Ground.phase }, { on := 8, ground := Ground.phase }, { on := 9, ground := Ground.phase }], guard := none }) rfl (fun K hK => ?_) AllReadyH.nil
                        go_simp
                        refine hK.out _ _ (held_set3 hHeld HSR5.out (by omega) (.slice a5 T.sols.length c5) (.int .i64 (T.nodes : Nat)) (.bool T.opn)) (fun hHeld => ?_)
                        clear hK K
                        try simp only [Act.put, List.setIfInBounds_toArray, List.set_cons_zero, List.set_cons_succ]
                        clear r0 r1 r2 rf0 rf1 rf2
                        refine wpAnyH_done (by kernel_rfl) ?_ _
                        clear hHeld HNV2 HNV SL HSR5 HSO5 HKP5 HI2 HQ HFQ
                        go_wp2
                        rw [HRES.out]
                        exact bodyPost_ret (results_cell1 (p := 6) (ty := 50) rfl rfl HRET.out.1) rfl ⟨_, rfl, HRET.out.2.1, HRET.out.2.2⟩
                      · clear s0 s1 s2
                        go_simp
                        refine (refWithOwn_any al2 i e false _ V (B := V.heap.size) (bnds_own hHeld.row hl2 (by omega)) (Nat.le_refl _) (by omega) hil (by omega) HU64.out).mono ?_
                        rintro e1 V2 ⟨bv2, rfl, hbo, hb2⟩
                        rw [hl2] at hbo
                        obtain ⟨b2a, b2c, rfl⟩ := own_form hbo
                        have hnV2 := HNV.out.below hb2
                        have s0 : V2.cell? ⟨w.heap.size, 0, none⟩ = some (.slice a3 Q.2.sols.length c3) := by rw [cell_of_row _ _ _ _ _ _ hnV2.srch]; rfl
                        have s1 : V2.cell? ⟨w.heap.size, 1, none⟩ = some (.int .i64 ((Q.2.nodes : Nat))) := by rw [cell_of_row _ _ _ _ _ _ hnV2.srch]; rfl
                        have s2 : V2.cell? ⟨w.heap.size, 2, none⟩ = some (.bool false) := by rw [cell_of_row _ _ _ _ _ _ hnV2.srch]; first | rfl | (rw [HOP.out]; rfl)
                        have HNV2 := Lib.hid hnV2; have HBO := Lib.hid hbo; have HB2 := Lib.hid hb2
                        clear hnV2 hbo hb2
                        go_wp2_with fail
                        refine hK.out _ _ (hHeld.kpt (KeptT.of_below HB2.out)) (fun hHeld => ?_)
                        clear hK K
                        try simp only [Act.put, List.setIfInBounds_toArray, List.set_cons_zero, List.set_cons_succ]
                        refine wpAnyH_take (i := 7) (oi := { dst := some 119, op := Op.build 25 #[(0, Operand.tmp 116), (1, Operand.tmp 118)], type := 25, pos := "ref.go:338", after := #[{ on := 4, ground := Ground.data }, { on := 6, ground := Ground.data }], guard := none }) (v := ?_) rfl (by kernel_rfl) (by kernel_rfl) (by kernel_rfl) (fun _ _ _ h => h) (Or.inl ⟨by kernel_rfl, ?_⟩) hHeld ?_
                        rotate_left
                        · intro w hSw
                          clear hSw
                          go_simp
                          try with_reducible rfl
                        try simp only [Act.put, List.setIfInBounds_toArray, List.set_cons_zero, List.set_cons_succ]
                        refine wpAnyH_ready (rs := [0]) (by kernel_rfl) (by simp) ?_
                        refine AllReadyH.cons (o := { dst := some 112, op := Op.load 50 (Operand.tmp 3), type := 50, pos := "ref.go:338", after := #[], guard := none }) rfl (fun K hK => ?_) AllReadyH.nil
                        go_simp
                        refine hK.out _ _ (hHeld) (fun hHeld => ?_)
                        clear hK K
                        try simp only [Act.put, List.setIfInBounds_toArray, List.set_cons_zero, List.set_cons_succ]
                        clear s0 s1 s2
                        refine wpAnyH_ready (rs := [9]) (by kernel_rfl) (by simp) ?_
                        refine AllReadyH.cons (o := { dst := some 121, op := Op.call { callee := Callee.value (Operand.func 75), args := #[Operand.tmp 112, Operand.tmp 119, Operand.tmp 120], argTypes := #[50, 25, 3] }, type := 50, pos := "ref.go:338", after := #[{ on := 0, ground := Ground.data }, { on := 7, ground := Ground.data }, { on := 8, ground := Ground.data }, { on := 4, ground := Ground.chain }], guard := none }) rfl (fun K hK => ?_) AllReadyH.nil
                        go_simp
                        have hkv := HNV2.out.kept
                        have hrv2 : Rls V2 B (.slice ra p.rules.length rc) p.rules := HRV.out.below (hkv.toBelow (B := B) hBb (by omega) (fun _ _ h => h)) (Nat.le_refl _)
                        have hcall := HI2.out Q.2 HFQ.out HOP.out HM.out (.slice a3 Q.2.sols.length c3) (.slice b2a p.bounds.length b2c) V2 V2.heap.size HNV2.out.own (bnds_own HBO.out (by rw [withB_length]; exact hl2) (by omega)) (Nat.le_refl _) hrv2 (by have := hkv.size; omega)
                        rw [HOP.out] at hcall
                        obtain ⟨T, hT⟩ : ∃ T, T = (nodeR p most k (padB (withB al2 i e false)) Q.2).2 := ⟨_, rfl⟩
                        have hres2 : (nodeR p most (k + 1) (padB all) s).2 = T := by rw [HQ.out, HQ1.out, if_pos rfl, hT]
                        rw [← hT] at hcall
                        have HRES := Lib.hid hres2
                        have HCL := Lib.hid hcall
                        clear hkv hrv2 hcall hres2 hT
                        refine HCL.out.mono ?_
                        rintro e1 V5 ⟨sv5, rfl, hso5, hkp5⟩
                        obtain ⟨a5, c5, rfl⟩ : ∃ a c, sv5 = .slice a T.sols.length c := by obtain ⟨cs0, hc0, _⟩ := hso5; exact own_form hc0
                        have HSO5 := Lib.hid hso5; have HKP5 := Lib.hid hkp5
                        clear hso5 hkp5 HCL HBO HB2
                        go_wp2_with fail
                        refine hK.out _ _ (hHeld.kpt HKP5.out) (fun hHeld => ?_)
                        clear hK K
                        try simp only [Act.put, List.setIfInBounds_toArray, List.set_cons_zero, List.set_cons_succ]
                        have hk5 := HNV2.out.kpt (sv' := .slice a5 T.sols.length c5) (s' := T) HKP5.out
                        have hsr5 := hk5.2.2.2
                        have r0 : V5.cell? ⟨w.heap.size + 2, 0, none⟩ = some (.slice none 0 0) := by rw [cell_of_row _ _ _ _ _ _ hsr5]; rfl
                        have r1 : V5.cell? ⟨w.heap.size + 2, 1, none⟩ = some (.int .i64 0) := by rw [cell_of_row _ _ _ _ _ _ hsr5]; rfl
                        have r2 : V5.cell? ⟨w.heap.size + 2, 2, none⟩ = some (.bool false) := by rw [cell_of_row _ _ _ _ _ _ hsr5]; rfl
                        have rf0 : V5.frozen? ⟨w.heap.size + 2, 0, none⟩ = false := by simp [World.frozen?, hsr5]
                        have rf1 : V5.frozen? ⟨w.heap.size + 2, 1, none⟩ = false := by simp [World.frozen?, hsr5]
                        have rf2 : V5.frozen? ⟨w.heap.size + 2, 2, none⟩ = false := by simp [World.frozen?, hsr5]
                        have HSR5 := Lib.hid hsr5
                        have HRET := Lib.hid (nd_ret (x := .slice a5 T.sols.length c5) (y := .int .i64 (T.nodes : Nat)) (z := .bool T.opn) hsr5 HSO5.out hk5.1)
                        clear hsr5 hk5
                        refine wpAnyH_ready (rs := [10]) (by kernel_rfl) (by simp) ?_
                        refine AllReadyH.cons (o := { dst := none, op := Op.store 50 (Operand.tmp 6) (Operand.tmp 121), type := 0, pos := "ref.go:338", after := #[{ on := 9, ground := Ground.data }, { on := 9, ground := Ground.chain }, { on := 0, ground := Ground.phase }, { on := 1, ground := Ground.phase }, { on := 2, ground := Ground.phase }, { on := 3, ground := Ground.phase }, { on := 4, ground := Ground.phase }, { on := 5, ground := Ground.phase }, { on := 6, ground := Ground.phase }, { on := 7, ground := Ground.phase }, { on := 8, ground := Ground.phase }, { on := 9, ground := Ground.phase }], guard := none }) rfl (fun K hK => ?_) AllReadyH.nil
                        go_simp
                        refine hK.out _ _ (held_set3 hHeld HSR5.out (by omega) (.slice a5 T.sols.length c5) (.int .i64 (T.nodes : Nat)) (.bool T.opn)) (fun hHeld => ?_)
                        clear hK K
                        try simp only [Act.put, List.setIfInBounds_toArray, List.set_cons_zero, List.set_cons_succ]
                        clear r0 r1 r2 rf0 rf1 rf2
                        refine wpAnyH_done (by kernel_rfl) ?_ _
                        clear hHeld HNV2 HNV SL HSR5 HSO5 HKP5 HI2 HQ HFQ
                        go_wp2
                        rw [HRES.out]
                        exact bodyPost_ret (results_cell1 (p := 6) (ty := 50) rfl rfl HRET.out.1) rfl ⟨_, rfl, HRET.out.2.1, HRET.out.2.2⟩
                    · have HQ1 : Hid (Q.1 = false) := Lib.hid (by rw [HFL.out, decide_eq_false hm, Bool.and_false])
                      have hm2 : most ≤ ((Q.2.sols.length : Nat) : Int) := by omega
                      clear hm
                      have hres2 : (nodeR p most (k + 1) (padB all) s).2 = Q.2 := by rw [HQ.out, HQ1.out]; rfl
                      have HRES := Lib.hid hres2
                      have r0 : W4.cell? ⟨w.heap.size + 2, 0, none⟩ = some (.slice none 0 0) := by rw [cell_of_row _ _ _ _ _ _ HN4.out.res]; rfl
                      have r1 : W4.cell? ⟨w.heap.size + 2, 1, none⟩ = some (.int .i64 0) := by rw [cell_of_row _ _ _ _ _ _ HN4.out.res]; rfl
                      have r2 : W4.cell? ⟨w.heap.size + 2, 2, none⟩ = some (.bool false) := by rw [cell_of_row _ _ _ _ _ _ HN4.out.res]; rfl
                      have rf0 : W4.frozen? ⟨w.heap.size + 2, 0, none⟩ = false := by simp [World.frozen?, HN4.out.res]
                      have rf1 : W4.frozen? ⟨w.heap.size + 2, 1, none⟩ = false := by simp [World.frozen?, HN4.out.res]
                      have rf2 : W4.frozen? ⟨w.heap.size + 2, 2, none⟩ = false := by simp [World.frozen?, HN4.out.res]
                      have zr : w.heap.size + 2 < W4.heap.size := (Array.getElem?_eq_some_iff.1 HN4.out.res).1
                      have HRET := Lib.hid (nd_ret (x := .slice a3 Q.2.sols.length c3) (y := .int .i64 (Q.2.nodes : Nat)) (z := .bool Q.2.opn) HN4.out.res HN4.out.own HN4.out.kept)
                      rw [HOP.out] at HRET
                      clear hres2 HN4 HI2 HI1 HFQ HQ
                      go_wp2
                      rw [HRES.out]
                      exact bodyPost_ret (results_cell1 (p := 6) (ty := 50) rfl rfl HRET.out.1) rfl ⟨_, by rw [HOP.out], HRET.out.2.1, HRET.out.2.2⟩
        · have hi2 : i = p.bounds.length := by omega
          subst hi2
          clear hb
          go_wp2_with fail
          refine wp_region_qb (by kernel_rfl) (by kernel_rfl) ?_
          repeat go_big_quiet_step (fail)
          refine wpQuiet_nil ?_
          intro w4 hb4
          have HB4 := Lib.hid (HB.out.trans (hb4.mono HB.out.size))
          clear hb4 HB
          have e2 : (((p.bounds.length : Nat) : Int) == ((p.bounds.length : Nat) : Int)) = true := by simp
          have HV : Hid (openV r.1.1 p.bounds.length = -1) := Lib.hid (by rw [HR1.out, openV_pad]; exact idxOf_none HALL.out)
          clear HALL
          go_wp2_with fail
          go_loopw [11, 12] (fun yv iv wr => ∃ j : Nat, j ≤ p.bounds.length ∧ iv = .int .i64 j ∧ wr.ownsRow w2.heap.size 65 1 yv (solOf al2 j).length (natsV (solOf al2 j)) ∧ Below w2.heap.size w2 wr) (fun _ iv _ => p.bounds.length - (intOf iv).toNat)
          case atStart => exact ⟨0, Nat.zero_le _, rfl, World.ownsRow_nil _ _ _ _, HB4.out⟩
          case round =>
            clear HB4
            obtain ⟨j, hj, rfl, hown, hb⟩ := hrel
            by_cases hlt : j < p.bounds.length
            · obtain ⟨i0, hin, hz0, hz1, hz2⟩ := info_parts Tryd.info65
              obtain ⟨ga, ca, cura, hae, hga, hgac, -, -, hcur⟩ := own_some (own_ck HAV.out (CK.below hb)) (by omega)
              cases hae
              have q0 : wr.cell? ⟨ga, j * 2, none⟩ = some (.int .u64 ((bget al2 j).inn : Nat)) := by rw [cell_of_row _ _ _ _ _ _ hgac, hcur _ (by omega), bCells_get _ _ (by omega), bcellAt_inn]
              have zg : ga < wr.heap.size := (Array.getElem?_eq_some_iff.1 hgac).1
              have hsl := solOf_length al2 j (by omega)
              have hss := solOf_snoc al2 j (by omega)
              have HNB := Lib.hid (Below.new1 wr (.cells #[.int .u64 ((bget al2 j).inn : Nat)] 65))
              have HOW := Lib.hid hown; have HB := Lib.hid hb; have HSL := Lib.hid hsl; have HSS := Lib.hid hss
              clear hown hb hsl hss hcur hgac hga
              go_wp2_with (at_builtin; refine wpList_append_own _ rfl _ _ 26 rfl w2.heap.size 65 i0 (.int .u64 0) 1 8 Tryd.underlying26 hin hz0 hz1 hz2 rfl (by decide) _ _ _ rfl (HOW.out.alloc _) ⟨wr.heap.size, 0, none⟩ 1 1 (natsV [(bget al2 j).inn]) rfl rfl ?c1 ?c2 ?c3 ?c4 ?c5 ?_)
              case c1 =>
                intro q u hq
                match q, hq with
                | 0, hq => cases hq; rw [Addr.add_lit, Nat.zero_add, cell_of_row _ _ _ _ _ _ (heap_new0 wr _)]; rfl
              case c2 => exact natsV_one _
              case c3 => have := HSL.out; unfold maxLen; omega
              case c4 => have := HSL.out; omega
              case c5 => have := HB.out.size; simp; omega
              intro v' w3 hown3 hgrow3 _
              have hb3 := (HB.out.trans (HNB.out.mono HB.out.size)).grown hgrow3 (by have := HB.out.size; simp; omega) (fun q hq => (HOW.out.lt q hq).1)
              rw [natsV_append, ← HSS.out] at hown3
              have hl2' : (solOf al2 j).length + 1 = (solOf al2 (j + 1)).length := by rw [HSS.out]; simp
              rw [hl2'] at hown3
              have HO3 := Lib.hid hown3; have HB3 := Lib.hid hb3
              clear hown3 hgrow3 hb3 hl2' q0
              go_wp2
              go_roundw
              case rel => exact ⟨j + 1, by omega, by go_num, HO3.out, HB3.out⟩
              case measure => simp [intOf]; omega
            · have hj2 : j = p.bounds.length := by omega
              subst hj2
              have hsl := solOf_length al2 p.bounds.length (by omega)
              have hn8' := HN2.out.below hb
              obtain ⟨cs, hcs, hcr⟩ := hn8'.own
              obtain ⟨ya, yn, yc, rfl⟩ : ∃ a n c, u11 = .slice a n c := by
                obtain ⟨a, c, h⟩ := own_form hown; exact ⟨_, _, _, h⟩
              obtain ⟨j0, jin, jz0, jz1, jz2⟩ := info_parts Tryd.info26
              have s0 : wr.cell? ⟨w.heap.size, 0, none⟩ = some (.slice sa s.sols.length sc) := by rw [cell_of_row _ _ _ _ _ _ hn8'.srch]; rfl
              have zo : w.heap.size < wr.heap.size := (Array.getElem?_eq_some_iff.1 hn8'.srch).1
              have HNB := Lib.hid (Below.new1 wr (.cells #[.slice ya yn yc] 26))
              have hfl : s.sols.length ≤ 200 := Nat.le_trans HFEW.out.1 hn200
              have hwb := hb.size
              have HOW := Lib.hid hown; have HSL := Lib.hid hsl; have HCS := Lib.hid hcs; have HCR := Lib.hid hcr; have HN8 := Lib.hid hn8'
              clear hown hb hsl hcs hcr hn8'
              go_wp2_with (at_builtin; refine wpList_append_own _ rfl _ _ 43 rfl base 26 j0 (.slice none 0 0) 1 24 Tryd.underlying43 jin jz0 jz1 jz2 rfl (by decide) _ _ _ rfl (HCS.out.alloc _) ⟨wr.heap.size, 0, none⟩ 1 1 [.slice ya yn yc] rfl rfl ?d1 ?d2 ?d3 ?d4 ?d5 ?_)
              case d2 => rfl
              case d3 => unfold maxLen; omega
              case d4 => omega
              case d5 => omega
              intro v' w9 hown9 hgrow9 _
              have hcs1 := HCS.out.alloc (.cells #[.slice ya yn yc] 26)
              have o1 := heap_later HN8.out.srch HNB.out zo
              have o9 := (hgrow9.block w.heap.size (Array.getElem?_eq_some_iff.1 o1).1 (fun hh => own_apart hcs1 o1 (by decide) _ hh.symm rfl)).trans o1
              have t1 := heap_later HN8.out.res HNB.out (Array.getElem?_eq_some_iff.1 HN8.out.res).1
              have t9 := (hgrow9.block (w.heap.size + 2) (Array.getElem?_eq_some_iff.1 t1).1 (fun hh => own_apart hcs1 t1 (by decide) _ hh.symm rfl)).trans t1
              have hy1 := own_mono (own_ck HOW.out (CK.below HNB.out)) (show base ≤ w2.heap.size by omega)
              have hso9 : SOwn w9 base v' (s.sols ++ [solOf al2 p.bounds.length]) := SOwn.appended hcs1 hgrow9 (fun i hi => by
                obtain ⟨yv, e5, e6⟩ := HCR.out i hi
                exact ⟨yv, e5, own_ck e6 (CK.below HNB.out)⟩) hy1 hown9
              have hkp9 := (HN8.out.kept.below HNB.out).grown hcs1 hgrow9
              obtain ⟨g5, cp, rfl⟩ := Slice.own_succ hown9
              clear s0
              have s0 : w9.cell? ⟨w.heap.size, 0, none⟩ = some (.slice sa s.sols.length sc) := by rw [cell_of_row _ _ _ _ _ _ o9]; rfl
              have s1 : w9.cell? ⟨w.heap.size, 1, none⟩ = some (.int .i64 ((s.nodes : Nat) + 1)) := by rw [cell_of_row _ _ _ _ _ _ o9]; rfl
              have s2 : w9.cell? ⟨w.heap.size, 2, none⟩ = some (.bool s.opn) := by rw [cell_of_row _ _ _ _ _ _ o9]; rfl
              have s0f : w9.frozen? ⟨w.heap.size, 0, none⟩ = false := by simp [World.frozen?, o9]
              have r0 : w9.cell? ⟨w.heap.size + 2, 0, none⟩ = some (.slice none 0 0) := by rw [cell_of_row _ _ _ _ _ _ t9]; rfl
              have r1 : w9.cell? ⟨w.heap.size + 2, 1, none⟩ = some (.int .i64 0) := by rw [cell_of_row _ _ _ _ _ _ t9]; rfl
              have r2 : w9.cell? ⟨w.heap.size + 2, 2, none⟩ = some (.bool false) := by rw [cell_of_row _ _ _ _ _ _ t9]; rfl
              have rf0 : w9.frozen? ⟨w.heap.size + 2, 0, none⟩ = false := by simp [World.frozen?, t9]
              have rf1 : w9.frozen? ⟨w.heap.size + 2, 1, none⟩ = false := by simp [World.frozen?, t9]
              have rf2 : w9.frozen? ⟨w.heap.size + 2, 2, none⟩ = false := by simp [World.frozen?, t9]
              have zo9 : w.heap.size < w9.heap.size := (Array.getElem?_eq_some_iff.1 o9).1
              have zt9 : w.heap.size + 2 < w9.heap.size := (Array.getElem?_eq_some_iff.1 t9).1
              have t9s := (Below.heap_setCell w9 ⟨w.heap.size, 0, none⟩ (.slice (some ⟨g5, 0, none⟩) (s.sols.length + 1) cp) (w.heap.size + 2) (by show w.heap.size + 2 ≠ w.heap.size; omega)).trans t9
              have HRET := Lib.hid (nd_ret (x := .slice (some ⟨g5, 0, none⟩) (s.sols.length + 1) cp) (y := .int .i64 ((s.nodes : Nat) + 1)) (z := .bool s.opn) t9s (hso9.setCell o9 (by decide) (by decide)) (hkp9.setNew (p := ⟨w.heap.size, 0, none⟩) (Nat.le_refl _) _))
              have hres : (nodeR p most (k + 1) (padB all) s).2 = { s with nodes := s.nodes + 1, sols := s.sols ++ [solOf al2 p.bounds.length] } := by
                unfold nodeR
                rw [if_neg h200, ← HRR.out]
                dsimp only
                rw [if_neg (show ¬ 0 ≤ r.2 by omega), HV.out, if_pos (by decide), HR1.out]
                show ({ s with nodes := s.nodes + 1, sols := s.sols ++ [solOf (padB al2) p.bounds.length] } : Fnd) = _
                congr 2
                unfold solOf
                rw [← hl2, padB_take, List.take_length]
              have HRES := Lib.hid hres
              clear hown9 hgrow9 hcs1 o1 o9 t1 t9 hy1 hso9 hkp9 t9s hres HV HCS HCR HN8 HOW HNB
              go_wp2
              rw [HRES.out]
              exact bodyPost_ret (results_cell1 (p := 6) (ty := 50) rfl rfl HRET.out.1) rfl ⟨_, rfl, HRET.out.2.1, HRET.out.2.2⟩
end Go.Proofs.YtilbbnjfaoldoaaDoor
