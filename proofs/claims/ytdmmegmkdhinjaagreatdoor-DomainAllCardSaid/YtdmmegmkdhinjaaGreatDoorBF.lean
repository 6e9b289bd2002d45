/- Package domain: the sweep of a rule's variable. · Two fields, held against each other. · Package domain: rounds of a propagation, in plain Lean. -/
import Derived.Test.YtdmmegmkdhinjaaGreatDoorBE
import Derived.Deep.RegionHeld3
import Derived.Laws.StructEq
namespace Go.Proofs.YtdmmegmkdhinjaaGreatDoor
open Go Go.RowKit
attribute [local go_sem] cell_grow u64_sAnd u64_sOr u64_sDiff sDiff_all zeqI zneI sAnd_bit_zero sAnd_bit_zeroN sAnd_bit_nonzero Oper.semAt_some wide_fn wide_depth

/-- Rows of cuts and of ints stay as they are. -/
def KT (W W' : World) : Prop := ∀ (k : Nat) (c : Array Value) (t : TypeId), t = 73 ∨ t = 3 → W.heap[k]? = some (.cells c t (0, 0)) → W'.heap[k]? = some (.cells c t (0, 0))
theorem COwn.kt {W W' : World} {base : Nat} {v : Value} {fs : List Cut} (h : COwn W base v fs) (hk : KT W W') : COwn W' base v fs := by
  obtain ⟨cs, h1, h2⟩ := h
  refine ⟨cs, own_type h1 fun k c e => hk k c _ (.inl rfl) e, fun i hi => ?_⟩
  obtain ⟨e1, e2, e3, yv, e5, e6⟩ := h2 i hi
  exact ⟨e1, e2, e3, yv, e5, own_type e6 fun k c e => hk k c _ (.inr rfl) e⟩
theorem KT.set {W : World} {x o : Nat} {c : Array Value} {t : TypeId} (h : W.heap[x]? = some (.cells c t (0, 0))) (h1 : t ≠ 73) (h2 : t ≠ 3) (v : Value) : KT W (W.setCell ⟨x, o, none⟩ v) := fun k c' t' ht e =>
  (Below.heap_setCell _ _ _ _ (ne_of_types e h (by rcases ht with rfl | rfl; exact Ne.symm h1; exact Ne.symm h2))).trans e
theorem KT.hole {W W' : World} (h : KT W W') (b : Nat) : KT (Go.Proofs.YtdmmegmkdhinjaaGreatDoor.hole b W) (Go.Proofs.YtdmmegmkdhinjaaGreatDoor.hole b W') := fun k c t ht e => by
  obtain ⟨h1, h2⟩ := hole_cells e
  rw [hole_other h1]; exact h k c t ht h2
theorem KT.of_ck {W W' : World} (h : CK W W') : KT W W' := fun k c t _ e => h.same k c t _ e
theorem COwn.hole {X : World} {base Bs : Nat} {v : Value} {cs : List Cut} {c : Array Value} {t : TypeId} (h : COwn X base v cs) (hb : X.heap[Bs]? = some (.cells c t (0, 0))) (h1 : t ≠ 73) (h2 : t ≠ 3) : COwn (Go.Proofs.YtdmmegmkdhinjaaGreatDoor.hole Bs X) base v cs :=
  h.kt fun k c' t' ht e => (hole_other (ne_of_types e hb (by rcases ht with rfl | rfl; exact Ne.symm h1; exact Ne.symm h2))).trans e
theorem COwn.appended {w w' : World} {base : Nat} {v v' yv : Value} {fs : List Cut} {cs : List Value} {c : Cut} (h1 : w.ownsRow base 73 4 v fs.length cs) (hg : w.grownBy w' v.ownBlock)
    (h2 : ∀ i, i < fs.length → cs[i * 4]? = some (.int .i64 (cget fs i).var) ∧ cs[i * 4 + 1]? = some (.int .i64 (cget fs i).value) ∧ cs[i * 4 + 2]? = some (.int .i64 (cget fs i).rule) ∧ ∃ yv, cs[i * 4 + 3]? = some yv ∧ w.ownsRow base 3 1 yv (cget fs i).why.length (intsV (cget fs i).why))
    (hy : w.ownsRow base 3 1 yv c.why.length (intsV c.why)) (ho : w'.ownsRow base 73 4 v' (fs.length + 1) (cs ++ [.int .i64 c.var, .int .i64 c.value, .int .i64 c.rule, yv])) : COwn w' base v' (fs ++ [c]) := by
  have key : ∀ (k : Nat) (x : Array Value), w.heap[k]? = some (.cells x 3 (0, 0)) → w'.heap[k]? = some (.cells x 3 (0, 0)) := fun k x e =>
    (hg.block k (Array.getElem?_eq_some_iff.1 e).1 (fun hh => own_apart h1 e (by decide) _ hh.symm rfl)).trans e
  refine COwn.snoc ho (by rw [h1.1]) (fun i hi => ?_) (own_type hy key)
  obtain ⟨e1, e2, e3, yv', e5, e6⟩ := h2 i hi
  exact ⟨e1, e2, e3, yv', e5, own_type e6 key⟩
theorem infoC : (Tryz.prog.info? 73).map (fun i => (i.zero, i.size, i.bytes)) = some (some (.agg #[.int .i64 0, .int .i64 0, .int .i64 0, .slice none 0 0]), 4, 48) := by kernel_rfl
section
variable {T : TypeId} {x Bs base : Nat} {w w6 V V' : World}
theorem KeptT.touched (h : KeptT T (Two x Bs) base w V) (ht : Touched Bs w.heap.size V V') : KeptT T (Two x Bs) base w V' :=
  ⟨ht.os.trans h.os, ht.tape.trans h.tape, ht.output.trans h.output, Nat.le_trans h.size ht.size, fun q o e hE hn =>
    ht.same q o (h.same q o e hE hn) (fun hh => hE (.inr hh)) (.inl (Array.getElem?_eq_some_iff.1 e).1)⟩
theorem KeptT.through (h : KeptT T (One x) base w w6) (h' : KeptT T (Two x Bs) base w6 V) (hb : w.heap.size ≤ Bs) : KeptT T (One x) base w V :=
  ⟨h'.os.trans h.os, h'.tape.trans h.tape, h'.output.trans h.output, Nat.le_trans h.size h'.size, fun q o e hE hn => h'.same q o (h.same q o e hE hn) (fun hh => by
    rcases hh with hh | hh
    · exact hE hh
    · have := (Array.getElem?_eq_some_iff.1 e).1; omega) hn⟩
end
/-- A piece of code in a round whose end is told by five values. -/
theorem wpIn_mid {α β γ δ ε : Type} {F : Fence} {n : Nat} {P : Program} {c : Code} {Q : Exit → Act → World → Prop} {a : Act} {w : World} (A : α → β → γ → δ → ε → Act) (R : α → β → γ → δ → ε → World → Prop)
    (h : c.wpIn F n P (onlyN fun _ a' W' => ∃ x y z u v, a' = A x y z u v ∧ R x y z u v W') a w) (hq : ∀ x y z u v W', R x y z u v W' → Q .normal (A x y z u v) W') : c.wpIn F n P Q a w :=
  wpIn_mono h (fun e a' w' h => by
    cases e <;> first | exact h.elim | skip
    obtain ⟨x, y, z, u, v, rfl, hr⟩ := h
    exact hq x y z u v w' hr)
theorem KeptT.putNew {T : TypeId} {E : Nat → Prop} {base : Nat} {a b : World} (h : KeptT T E base a b) {D : Nat} (hD : a.heap.size ≤ D) (o : Obj) : KeptT T E base a (b.putObj D o) :=
  ⟨h.os, h.tape, h.output, by simpa using h.size, fun q ob e hE hn => (World.putObj_heap_other (by have := (Array.getElem?_eq_some_iff.1 e).1; omega)).trans (h.same q ob e hE hn)⟩
def swpAOps : Array Oper := #[
  { dst := some 44, op := Op.load 75 (Operand.tmp 3), type := 75, pos := "domain.go:268", after := #[], guard := none },
  { dst := some 45, op := Op.load 75 (Operand.tmp 3), type := 75, pos := "domain.go:268", after := #[], guard := none },
  { dst := some 46, op := Op.nilCheck (Operand.tmp 45), type := 0, pos := "domain.go:268", after := #[{ on := 1, ground := Ground.data }], guard := none },
  { dst := some 47, op := Op.fieldAddr 80 (Operand.tmp 46) 2, type := 0, pos := "domain.go:268", after := #[{ on := 2, ground := Ground.data }], guard := none },
  { dst := some 48, op := Op.load 28 (Operand.tmp 47), type := 28, pos := "domain.go:268", after := #[{ on := 3, ground := Ground.data }], guard := none },
  { dst := some 49, op := Op.load 75 (Operand.tmp 3), type := 75, pos := "domain.go:268", after := #[], guard := none },
  { dst := some 50, op := Op.fieldAddr 69 (Operand.tmp 7) 1, type := 0, pos := "domain.go:268", after := #[], guard := none },
  { dst := some 51, op := Op.load 39 (Operand.tmp 50), type := 39, pos := "domain.go:268", after := #[{ on := 6, ground := Ground.data }], guard := none },
  { dst := some 52, op := Op.load 3 (Operand.tmp 5), type := 3, pos := "domain.go:268", after := #[], guard := none },
  { dst := some 53, op := Op.indexAddr 39 (Operand.tmp 51) (Operand.tmp 52), type := 0, pos := "domain.go:268", after := #[{ on := 7, ground := Ground.data }, { on := 8, ground := Ground.data }], guard := none },
  { dst := some 54, op := Op.load 3 (Operand.tmp 53), type := 3, pos := "domain.go:268", after := #[{ on := 9, ground := Ground.data }], guard := none },
  { dst := some 55, op := Op.move (Operand.tmp 9), type := 3, pos := "domain.go:268", after := #[], guard := none },
  { dst := some 56, op := Op.load 3 (Operand.tmp 4), type := 3, pos := "domain.go:268", after := #[], guard := none },
  { dst := some 57, op := Op.build 73 #[(0, Operand.tmp 54), (1, Operand.tmp 55), (2, Operand.tmp 56)], type := 73, pos := "domain.go:268", after := #[{ on := 10, ground := Ground.data }, { on := 11, ground := Ground.data }, { on := 12, ground := Ground.data }], guard := none },
  { dst := some 58, op := Op.call { callee := Callee.value (Operand.func 110), args := #[Operand.tmp 49, Operand.tmp 57], argTypes := #[75, 73] }, type := 73, pos := "domain.go:268", after := #[{ on := 5, ground := Ground.data }, { on := 13, ground := Ground.data }], guard := none },
  { dst := some 59, op := Op.buildSlice 28 1 #[(0, Operand.tmp 58)], type := 28, pos := "domain.go:268", after := #[{ on := 14, ground := Ground.data }], guard := none },
  { dst := some 60, op := Op.call { callee := Callee.builtin Builtin.append, args := #[Operand.tmp 48, Operand.tmp 59], argTypes := #[28, 28] }, type := 28, pos := "domain.go:268", after := #[{ on := 4, ground := Ground.data }, { on := 15, ground := Ground.data }, { on := 14, ground := Ground.chain }], guard := none },
  { dst := some 61, op := Op.nilCheck (Operand.tmp 44), type := 0, pos := "domain.go:268", after := #[{ on := 0, ground := Ground.data }, { on := 0, ground := Ground.phase }, { on := 1, ground := Ground.phase }, { on := 2, ground := Ground.phase }, { on := 3, ground := Ground.phase }, { on := 4, ground := Ground.phase }, { on := 5, ground := Ground.phase }, { on := 6, ground := Ground.phase }, { on := 7, ground := Ground.phase }, { on := 8, ground := Ground.phase }, { on := 9, ground := Ground.phase }, { on := 10, ground := Ground.phase }, { on := 11, ground := Ground.phase }, { on := 12, ground := Ground.phase }, { on := 13, ground := Ground.phase }, { on := 14, ground := Ground.phase }, { on := 15, ground := Ground.phase }, { on := 16, ground := Ground.phase }], guard := none },
  { dst := some 62, op := Op.fieldAddr 80 (Operand.tmp 61) 2, type := 0, pos := "domain.go:268", after := #[{ on := 17, ground := Ground.data }, { on := 0, ground := Ground.phase }, { on := 1, ground := Ground.phase }, { on := 2, ground := Ground.phase }, { on := 3, ground := Ground.phase }, { on := 4, ground := Ground.phase }, { on := 5, ground := Ground.phase }, { on := 6, ground := Ground.phase }, { on := 7, ground := Ground.phase }, { on := 8, ground := Ground.phase }, { on := 9, ground := Ground.phase }, { on := 10, ground := Ground.phase }, { on := 11, ground := Ground.phase }, { on := 12, ground := Ground.phase }, { on := 13, ground := Ground.phase }, { on := 14, ground := Ground.phase }, { on := 15, ground := Ground.phase }, { on := 16, ground := Ground.phase }], guard := none },
  { dst := none, op := Op.store 28 (Operand.tmp 62) (Operand.tmp 60), type := 0, pos := "domain.go:268", after := #[{ on := 18, ground := Ground.data }, { on := 16, ground := Ground.data }, { on := 16, ground := Ground.chain }, { on := 0, ground := Ground.phase }, { on := 1, ground := Ground.phase }, { on := 2, ground := Ground.phase }, { on := 3, ground := Ground.phase }, { on := 4, ground := Ground.phase }, { on := 5, ground := Ground.phase }, { on := 6, ground := Ground.phase }, { on := 7, ground := Ground.phase }, { on := 8, ground := Ground.phase }, { on := 9, ground := Ground.phase }, { on := 10, ground := Ground.phase }, { on := 11, ground := Ground.phase }, { on := 12, ground := Ground.phase }, { on := 13, ground := Ground.phase }, { on := 14, ground := Ground.phase }, { on := 15, ground := Ground.phase }, { on := 16, ground := Ground.phase }], guard := none }]
set_option maxRecDepth 100000 in
set_option maxHeartbeats 4000000 in
theorem sweep_step (p : Dp) (rs : Bool) (n i : Nat) (st : Sd) (dv rv lv : Value) (x : Nat) (w : World) {B base : Nat} (hdv : Us w B dv p.doms) (hrv : DRls w B rv p.rules) (hB0 : 0 < B) (hB : B ≤ x) (hBb : B ≤ base)
    (hx : w.heap[x]? = some (.cells (propC dv rv st.1 lv rs).toArray 80 (0, 0))) (hf : COwn w base lv st.2) (hbase : base ≤ w.heap.size) (hg : Good st) (hpo : probD p = true) (hnl : n < p.rules.length) (hil : i < (drget p.rules n).vars.length) (hT : Tab w) :
    Calls Tryz.prog 75 #[.pointer (some ⟨x, 0, none⟩), .int .i64 n, .int .i64 i] w fun e w' =>
      e = .returned (.bool (!(nget (sweepD p rs n i st).1 (iget (drget p.rules n).vars i).toNat == 0))) ∧ ∃ lv', w'.heap[x]? = some (.cells (propC dv rv (sweepD p rs n i st).1 lv' rs).toArray 80 (0, 0)) ∧ COwn w' base lv' (sweepD p rs n i st).2 ∧ KeptT 73 (One x) base w w' := by
  have HDV := Lib.hid hdv; have HRV := Lib.hid hrv; have HT := Lib.hid hT; have HX := Lib.hid hx; have HF := Lib.hid hf; have HG := Lib.hid hg; have HPO := Lib.hid hpo; have HPP := Lib.hid (probD_parts hpo)
  obtain ⟨da, dc, rfl⟩ := hdv.slice
  obtain ⟨ra, rc, rfl⟩ := hrv.slice
  obtain ⟨rb, ro, vv, nv, rfl, hrb, hra, q0, q1, q2, q3⟩ := hrv.cells hnl
  obtain ⟨va, vc, rfl⟩ := hra.vars.slice
  obtain ⟨na, nc, rfl⟩ := hra.nums.slice
  have hr0 := HPP.out.2.2.2.2 n hnl
  obtain ⟨xv, hxv⟩ : ∃ xv : Nat, iget (drget p.rules n).vars i = xv := ⟨(iget (drget p.rules n).vars i).toNat, by have := (ruleD_vars hr0 (by have := HPP.out.2.1; omega) i hil).1; omega⟩
  have hxv8 : xv < 8 := by have := (ruleD_vars hr0 (by have := HPP.out.2.1; omega) i hil).2; omega
  have HXV := Lib.hid hxv
  obtain ⟨_, a', c', hae, _, _, hvr⟩ := hra.vars
  cases hae
  obtain ⟨vb, vo, rfl, hvb, hvcell⟩ := hvr (by omega)
  have v0 : w.cell? ⟨vb, vo + i, none⟩ = some (.int .i64 xv) := by rw [← hxv]; exact hvcell i (by omega)
  have HV0w := Lib.hid v0
  have hxl : x < w.heap.size := (Array.getElem?_eq_some_iff.1 hx).1
  have x1 := (propC_cells hg.f.len hx).2.1
  have hmem : (xv : Int) ∈ (drget p.rules n).vars := by rw [← hxv]; unfold iget; rw [List.getElem?_eq_getElem hil]; exact List.getElem_mem hil
  obtain ⟨r, hr⟩ : ∃ r, r = drget p.rules n := ⟨_, rfl⟩
  have HRR := Lib.hid hr; have HMEM := Lib.hid hmem; have HR0 := Lib.hid hr0
  rw [← hr] at hra q0 q1 q2 q3 hil HR0 HXV
  rw [← hr]
  have HRA := Lib.hid hra
  have hv4 := (ruleD_parts hr0).2.1
  rw [← hr] at hv4
  clear hdv hrv hT hx hf hg hpo hra hvr hvcell hxv hmem hr hr0
  refine callsIn_wide.1 (callsIn_of_wp_marks (n := 0) Tryz.func75 rfl trivial (wpIn_wide.2 ?_) rfl)
  simp only [Tryz.ntmps75, List.size_toArray, List.length_cons, List.length_nil, Nat.reduceAdd, Nat.reduceSub, Array.replicate_succ, Array.replicate_zero, List.push_toArray, List.append_toArray, List.nil_append, List.cons_append]
  go_wp2_with fail
  refine abs_wp (fun W => W.heap[w.heap.size]? = some (.cells #[.pointer (some ⟨x, 0, none⟩)] 75 (0, 0)) ∧ W.heap[w.heap.size + 1]? = some (.cells #[.int .i64 n] 3 (0, 0)) ∧ W.heap[w.heap.size + 1 + 1]? = some (.cells #[.int .i64 i] 3 (0, 0)) ∧ Below w.heap.size w W ∧ w.heap.size + 3 = W.heap.size) ⟨(heap_new3 _ _ _ _).1, (heap_new3 _ _ _ _).2.1, (heap_new3 _ _ _ _).2.2, Below.new3 _ _ _ _, by simp⟩ ?_
  rintro W ⟨k0, k1, k2, hb, hs⟩
  have c0 : W.cell? ⟨w.heap.size, 0, none⟩ = some (.pointer (some ⟨x, 0, none⟩)) := by rw [cell_of_row _ _ _ _ _ _ k0]; rfl
  have c1 : W.cell? ⟨w.heap.size + 1, 0, none⟩ = some (.int .i64 n) := by rw [cell_of_row _ _ _ _ _ _ k1]; rfl
  rw [← (bcell hb).1 _ _ (by omega)] at x1 q0 q1 q2 q3 v0
  have z0 : w.heap.size < W.heap.size := by omega
  have z1 : w.heap.size + 1 < W.heap.size := by omega
  have z2 : x < W.heap.size := by omega
  have z3 : rb < W.heap.size := by omega
  have HK0 := Lib.hid k0; have HK1 := Lib.hid k1; have HK2 := Lib.hid k2; have HB := Lib.hid hb; have HS := Lib.hid hs; have HV0 := Lib.hid v0
  clear k0 k1 k2 hb hs v0
  go_region_held3 (fun w' => w'.cell? ⟨w.heap.size, 0, none⟩ = some (.pointer (some ⟨x, 0, none⟩)) ∧ w'.cell? ⟨w.heap.size + 1, 0, none⟩ = some (.int .i64 n) ∧ w'.cell? ⟨x, 1, none⟩ = some (.slice (some ⟨rb, ro, none⟩) p.rules.length rc) ∧ w'.cell? ⟨rb, ro + n * 4, none⟩ = some (.int .i64 r.kind) ∧ w'.cell? ⟨rb, ro + n * 4 + 1, none⟩ = some (.slice (some ⟨vb, vo, none⟩) r.vars.length vc) ∧
      w'.cell? ⟨rb, ro + n * 4 + 2, none⟩ = some (.slice na r.nums.length nc) ∧ w'.cell? ⟨rb, ro + n * 4 + 3, none⟩ = some (.int .i64 r.n)) (go_keep) (fail)
  refine abs_post (fun V => V.heap[w.heap.size]? = some (.cells #[.pointer (some ⟨x, 0, none⟩)] 75 (0, 0)) ∧ V.heap[w.heap.size + 1]? = some (.cells #[.int .i64 n] 3 (0, 0)) ∧ V.heap[w.heap.size + 1 + 1]? = some (.cells #[.int .i64 i] 3 (0, 0)) ∧ V.heap[W.heap.size]? = some (.cells #[.int .i64 r.kind, .slice (some ⟨vb, vo, none⟩) r.vars.length vc, .slice na r.nums.length nc, .int .i64 r.n] 69 (0, 0)) ∧
    Below W.heap.size W V ∧ W.heap.size + 1 = V.heap.size) ⟨(heap_old HK0.out), (heap_old HK1.out), (heap_old HK2.out), (heap_new0 _ _), Below.drewn (Below.new1 _ _), by simp⟩ ?_
  rintro V ⟨k0, k1, k2, k3, hb, hs⟩
  have hbV := HB.out.trans (hb.mono HB.out.size)
  have hsW := HS.out
  have c0 : V.cell? ⟨w.heap.size, 0, none⟩ = some (.pointer (some ⟨x, 0, none⟩)) := by rw [cell_of_row _ _ _ _ _ _ k0]; rfl
  have c2 : V.cell? ⟨w.heap.size + 1 + 1, 0, none⟩ = some (.int .i64 i) := by rw [cell_of_row _ _ _ _ _ _ k2]; rfl
  have d1 : V.cell? ⟨W.heap.size, 1, none⟩ = some (.slice (some ⟨vb, vo, none⟩) r.vars.length vc) := by rw [cell_of_row _ _ _ _ _ _ k3]; rfl
  have v0 : V.cell? ⟨vb, vo + i, none⟩ = some (.int .i64 xv) := (hb.cell (p := ⟨vb, vo + i, none⟩) (by show vb < W.heap.size; omega)).trans HV0.out
  have y0 : w.heap.size < V.heap.size := by omega
  have y1 : w.heap.size + 1 + 1 < V.heap.size := by omega
  have y2 : x < V.heap.size := by omega
  have y3 : W.heap.size < V.heap.size := by omega
  have y4 : vb < V.heap.size := by omega
  have hxvI : (xv : Int) < 8 := by omega
  have HJ0 := Lib.hid k0; have HJ1 := Lib.hid k1; have HJ2 := Lib.hid k2; have HJ3 := Lib.hid k3; have HBV := Lib.hid hbV; have HSV := Lib.hid hs
  clear k0 k1 k2 k3 hb hbV hs HK0 HK1 HK2 HB HS HV0 z0 z1 z2 z3
  go_wp2_with fail
  go_region_held3 (fun w' => w'.cell? ⟨w.heap.size, 0, none⟩ = some (.pointer (some ⟨x, 0, none⟩)) ∧ w'.cell? ⟨w.heap.size + 1 + 1, 0, none⟩ = some (.int .i64 i) ∧ w'.cell? ⟨W.heap.size, 1, none⟩ = some (.slice (some ⟨vb, vo, none⟩) r.vars.length vc) ∧ w'.cell? ⟨vb, vo + i, none⟩ = some (.int .i64 xv)) (go_keep) (fail)
  refine abs_post (fun Z => Z.heap[V.heap.size]? = some (.cells #[.pointer (some ⟨x, 2 + xv, none⟩)] 140 (0, 0)) ∧ Below V.heap.size V Z ∧ V.heap.size + 1 = Z.heap.size) ⟨heap_new0 _ _, Below.drewn (Below.new1 _ _), by simp⟩ ?_
  rintro w4 ⟨k4, hb4, hs4⟩
  have hbw4 := HBV.out.trans (hb4.mono HBV.out.size)
  have hsV := HSV.out
  have hx4 := heap_later HX.out hbw4 hxl
  have xc := (propC_cells HG.out.f.len hx4).2.2.1 xv hxv8
  have p4 : w4.cell? ⟨V.heap.size, 0, none⟩ = some (.pointer (some ⟨x, 2 + xv, none⟩)) := by rw [cell_of_row _ _ _ _ _ _ k4]; rfl
  obtain ⟨d, hd⟩ : ∃ d, d = nget st.1 xv := ⟨_, rfl⟩
  have hd16 : d < 65536 := by rw [hd]; exact HG.out.f.lt xv
  rw [← hd] at xc
  have HK4 := Lib.hid k4; have HB4 := Lib.hid hb4; have HBW4 := Lib.hid hbw4; have HDD := Lib.hid hd; have HX4 := Lib.hid hx4
  clear k4 hb4 hbw4 hd hx4 c0 c2 d1 v0
  go_wp2_with fail
  refine (values_any d w4).mono ?_
  rintro e w6 ⟨rfl, hw6⟩
  have hb46 : Below w4.heap.size w4 w6 := by rw [← hw6]; exact Below.new1 _ _
  have kB : w6.heap[w4.heap.size]? = some (.cells #[.int .u64 (d : Nat)] 56 (0, 0)) := by rw [← hw6]; exact heap_new0 _ _
  have hs6 : w4.heap.size + 1 = w6.heap.size := by rw [← hw6]; simp
  clear hw6
  have hbV6 := HB4.out.trans (hb46.mono HB4.out.size)
  have hbw6 := HBW4.out.trans (hb46.mono HBW4.out.size)
  have K0 := Lib.hid (heap_later HJ0.out hbV6 (by omega)); have K1 := Lib.hid (heap_later HJ1.out hbV6 (by omega)); have K2 := Lib.hid (heap_later HJ2.out hbV6 (by omega)); have K3 := Lib.hid (heap_later HJ3.out hbV6 (by omega)); have K4 := Lib.hid (heap_later HK4.out hb46 (by omega))
  have X6 := Lib.hid (heap_later HX4.out hb46 (by omega)); have KB := Lib.hid kB
  have F6 := Lib.hid (HF.out.ck ((CK.below hbw6).fresh (b := w4.heap.size) (by omega)))
  have GR6 := Lib.hid (KeptT.of_below (T := 73) (E := One x) (base := base) hbw6)
  have HBW6 := Lib.hid hbw6
  have hne : x ≠ w4.heap.size ∧ w.heap.size + 3 ≤ W.heap.size ∧ W.heap.size + 1 = V.heap.size ∧ V.heap.size + 1 = w4.heap.size := by omega
  have HNE := Lib.hid hne
  clear hb46 hbV6 hbw6 kB hne HJ0 HJ1 HJ2 HJ3 HK4 HB4 HBW4 HX4 xc p4 y0 y1 y2 y3 y4 HBV HSV
  go_wp2_with fail
  refine wpIn_wide.1 (rangeElems (n := 0) w4.heap.size d rfl (Nat.lt_trans hd16 (by decide)) KB.out (by show w4.heap.size ≠ 0; omega)
    (fun pre Z => (∃ lv2, Z.heap[x]? = some (.cells (propC (.slice da p.doms.length dc) (.slice (some ⟨rb, ro, none⟩) p.rules.length rc) (pre.foldl (cutV p rs n i) st).1 lv2 rs).toArray 80 (0, 0)) ∧ COwn (hole w4.heap.size Z) base lv2 (pre.foldl (cutV p rs n i) st).2) ∧ KeptT 73 (Two x w4.heap.size) base w6 Z)
    (fun _ _ _ => False) ?hI (fun _ _ _ _ h _ => h) ?hT ⟨⟨lv, X6.out, F6.out⟩, KeptT.refl _⟩ ?round ?done (fun _ _ _ _ _ h _ => h.elim))
  case hI =>
    rintro pre Z Z' ⟨⟨lv2, h1, h2⟩, h3⟩ ht
    exact ⟨⟨lv2, ht.same _ _ h1 HNE.out.1 (.inr rfl), h2.ck (CK.touched ht)⟩, h3.touched ht⟩
  case hT =>
    rintro pre Z ⟨_, h7⟩
    exact HT.out.below ((GR6.out.through h7 (by have := HNE.out; omega)).toBelow hBb (by omega) (fun q hq h => by unfold One at h; omega)) hB0
  case done =>
    rintro D Z hDw ⟨⟨lv2, h1, h2⟩, h7⟩ hDm
    have hgc := (Good.cuts (p := p) (rs := rs) (n := n) (i := i) (by rw [← HRR.out]; exact HXV.out) hxv8 (elems d) HG.out (elems_nodup d) (fun u hu => by rw [← HDD.out]; exact hu)).1
    have hsw : sweepD p rs n i st = (elems d).foldl (cutV p rs n i) st := by unfold sweepD; rw [← HRR.out, HXV.out, Int.toNat_natCast, ← HDD.out]
    have g4 := h7.same _ _ K4.out (two_no (by have := HNE.out; omega) (by have := HNE.out; omega)) (.inr (nT (by decide)))
    have p8 : Z.cell? ⟨V.heap.size, 0, none⟩ = some (.pointer (some ⟨x, 2 + xv, none⟩)) := by rw [cell_of_row _ _ _ _ _ _ g4]; rfl
    have hxD : x ≠ D := by have := (Array.getElem?_eq_some_iff.1 X6.out).1; omega
    obtain ⟨st3, hst3⟩ : ∃ st3, st3 = (elems d).foldl (cutV p rs n i) st := ⟨_, rfl⟩
    rw [← hst3] at h1 h2 hgc hsw
    have xcs := (propC_cells hgc.f.len h1).2.2.1 xv hxv8
    have H1 := Lib.hid h1; have H2 := Lib.hid h2; have H7 := Lib.hid (GR6.out.through h7 (by have := HNE.out; omega)); have HDm := Lib.hid hDm; have HSW := Lib.hid hsw
    clear h1 h2 h7 hgc hsw g4 hst3 hDm
    go_wp2_with fail
    have hck : CK Z (Z.putObj D (.deferred none)) := ⟨fun k c t f e => (World.putObj_heap_other (fun hk => by subst hk; rw [HDm.out] at e; cases e)).trans e, by simp⟩
    refine bodyM_ret1 D HDm.out (results_tmp (t := 6) rfl _ _ _) rfl ⟨?_, lv2, ?_, ?_, ?_⟩
    · rw [HSW.out, HXV.out, Int.toNat_natCast]; rfl
    · rw [HSW.out]; exact (World.putObj_heap_other hxD).trans H1.out
    · rw [HSW.out]; exact (H2.out.ck (CK.fill _ _)).ck hck
    · exact H7.out.putNew (by have := HNE.out; omega) _
  case round =>
    intro lp pre v rest Z hel
    gi_wp2
    refine ⟨trivial, ?_⟩
    rintro V2 ⟨⟨lv2, h1, h2⟩, h7⟩ hBs0 hL2
    obtain ⟨hg2, hv2⟩ := HG.out.at (p := p) (rs := rs) (n := n) (i := i) (by rw [← HRR.out]; exact HXV.out) hxv8 (by rw [← HDD.out]; exact hel)
    have hv16 : v < 16 := elems16 hd16 (by rw [hel]; simp)
    have hv64 : v < 64 := by omega
    have hnx : (pre ++ [v]).foldl (cutV p rs n i) st = cutV p rs n i (pre.foldl (cutV p rs n i) st) v := by rw [List.foldl_append]; rfl
    obtain ⟨st2, hst2⟩ : ∃ st2, st2 = pre.foldl (cutV p rs n i) st := ⟨_, rfl⟩
    rw [← hst2] at h1 h2 hg2 hv2 hnx
    have hcv : cutV p rs n i st2 v = if suppD st2.1 r i v then st2 else (st2.1.set xv (sDiff (nget st2.1 xv) (bitN v)), if rs then st2.2 ++ [reasonD p st2.2 ⟨xv, v, n, []⟩] else st2.2) := by
      unfold cutV; simp only [← HRR.out, HXV.out, Int.toNat_natCast]
    rw [hcv] at hnx
    have g0 := h7.same _ _ K0.out (two_no (by omega) (by have := HNE.out; omega)) (.inr (nT (by decide)))
    have g2 := h7.same _ _ K2.out (two_no (by omega) (by have := HNE.out; omega)) (.inr (nT (by decide)))
    have g3 := h7.same _ _ K3.out (two_no (by have := HNE.out; omega) (by have := HNE.out; omega)) (.inr (nT (by decide)))
    have m0 : V2.cell? ⟨w.heap.size, 0, none⟩ = some (.pointer (some ⟨x, 0, none⟩)) := by rw [cell_of_row _ _ _ _ _ _ g0]; rfl
    have m2 : V2.cell? ⟨w.heap.size + 1 + 1, 0, none⟩ = some (.int .i64 i) := by rw [cell_of_row _ _ _ _ _ _ g2]; rfl
    have t0 : V2.cell? ⟨W.heap.size, 0, none⟩ = some (.int .i64 r.kind) := by rw [cell_of_row _ _ _ _ _ _ g3]; rfl
    have t1 : V2.cell? ⟨W.heap.size, 1, none⟩ = some (.slice (some ⟨vb, vo, none⟩) r.vars.length vc) := by rw [cell_of_row _ _ _ _ _ _ g3]; rfl
    have t2 : V2.cell? ⟨W.heap.size, 2, none⟩ = some (.slice na r.nums.length nc) := by rw [cell_of_row _ _ _ _ _ _ g3]; rfl
    have t3 : V2.cell? ⟨W.heap.size, 3, none⟩ = some (.int .i64 r.n) := by rw [cell_of_row _ _ _ _ _ _ g3]; rfl
    have z0 : w.heap.size < V2.heap.size := (Array.getElem?_eq_some_iff.1 g0).1
    have z2 : w.heap.size + 1 + 1 < V2.heap.size := (Array.getElem?_eq_some_iff.1 g2).1
    have z3 : W.heap.size < V2.heap.size := (Array.getElem?_eq_some_iff.1 g3).1
    have zx : x < V2.heap.size := (Array.getElem?_eq_some_iff.1 h1).1
    have hrow := prop_range hg2.f.len h1
    have hbV2 : Below B w V2 := (GR6.out.through h7 (by have := HNE.out; omega)).toBelow hBb (by omega) (fun q hq h => by unfold One at h; omega)
    have hsup : ∀ d os, Gives Tryz.prog 109 #[fieldV st2.1, .agg #[.int .i64 r.kind, .slice (some ⟨vb, vo, none⟩) r.vars.length vc, .slice na r.nums.length nc, .int .i64 r.n], .int .i64 (i : Nat), .int .i64 (v : Nat)] (Go.Sort.grow (redrawn V2 d) os) (.bool (suppD st2.1 r i (v : Nat))) := fun d os =>
      supported_any st2.1 hg2.f r HR0.out (by have := HPP.out.2.1; omega) i hil v _ _ _ ((HRA.out.below hbV2 (Nat.le_refl _)).below (below_regrown V2 d os) (by omega)) hB0 (Nat.le_trans (show B ≤ V2.heap.size by omega) (below_regrown V2 d os).size) ((HT.out.below hbV2 hB0).below (below_regrown V2 d os) (by omega))
    have HSUP := Lib.hid hsup; have HRG := Lib.hid hrow; have H1 := Lib.hid h1; have H2 := Lib.hid h2; have H7 := Lib.hid h7; have HG2 := Lib.hid hg2; have HV2 := Lib.hid hv2; have HBV2 := Lib.hid hbV2; have HNX := Lib.hid hnx; have HBS0 := Lib.hid hBs0
    have hlen8 := hg2.f.len
    clear hsup hrow h1 h2 h7 hg2 hv2 hbV2 hnx hst2 hcv g0 g2 g3 hel hBs0
    gi_wp2_with fail
    refine wpIn_region_qb (by kernel_rfl) (by kernel_rfl) (by rintro ⟨a, w, h⟩; exact h) ?_
    cases hs : suppD st2.1 r i (v : Nat) <;> rw [hs] at HSUP
    case true =>
      repeat (first | (go_big_quiet_want; refine quiet_loadF _ hlen8 rfl rfl (rangeQ HRG.out zx) ?_; simp only [Act.put, List.setIfInBounds_toArray, List.set_cons_zero, List.set_cons_succ]; go_big_quiet_on) | go_big_quiet_step ((with_reducible exact Gives.quiet (HSUP.out _ _))))
      refine wpQuiet_nil ?_
      intro w7 hb7
      have HN : Hid ((pre ++ [v]).foldl (cutV p rs n i) st = st2) := Lib.hid (by rw [HNX.out, hs]; rfl)
      have HB7 := Lib.hid hb7
      have hx7 := heap_later H1.out hb7 zx
      have HX7 := Lib.hid hx7
      clear hb7 hx7
      gi_wp2
      exact ⟨(Keep.refl _ _ _).below HB7.out, ⟨lv2, by rw [HN.out]; exact HX7.out, by rw [HN.out]; exact H2.out.ck ((CK.below HB7.out).hole)⟩, H7.out.below HB7.out⟩
    case false =>
      repeat (first | (go_big_quiet_want; refine quiet_loadF _ hlen8 rfl rfl (rangeQ HRG.out zx) ?_; simp only [Act.put, List.setIfInBounds_toArray, List.set_cons_zero, List.set_cons_succ]; go_big_quiet_on) | go_big_quiet_step ((with_reducible exact Gives.quiet (HSUP.out _ _))))
      refine wpQuiet_nil ?_
      intro w7 hb7
      have hnx2 := HNX.out
      rw [hs, if_neg (by decide)] at hnx2
      have hx8 := heap_later H1.out hb7 zx
      have hc8 := H2.out.ck ((CK.below hb7).hole (b := w4.heap.size))
      have h8 := H7.out.below hb7
      have hk8 := (Keep.refl w4.heap.size w6.heap.size V2).below hb7
      have g07 := h8.same _ _ K0.out (two_no (by omega) (by have := HNE.out; omega)) (.inr (nT (by decide)))
      have m07 : w7.cell? ⟨w.heap.size, 0, none⟩ = some (.pointer (some ⟨x, 0, none⟩)) := by rw [cell_of_row _ _ _ _ _ _ g07]; rfl
      have x11 := (propC_cells hlen8 hx8).2.2.2.2.1
      have HB7 := Lib.hid hb7
      clear hb7 HNX m0 m2 t0 t1 t2 t3 HSUP HRG g07
      cases rs
      case false =>
        rw [if_neg (by decide)] at hnx2
        have HNX := Lib.hid hnx2
        clear hnx2
        gi_wp2_with fail
        clear m07 x11
        have hlen8 := HG2.out.f.len
        have xcs := (propC_cells hlen8 hx8).2.2.1 xv hxv8
        have xfr := (propC_cells hlen8 hx8).2.2.2.2.2 (2 + xv)
        have k4y := h8.same _ _ K4.out (two_no (by have := HNE.out; omega) (by have := HNE.out; omega)) (.inr (nT (by decide)))
        have p8 : w7.cell? ⟨V.heap.size, 0, none⟩ = some (.pointer (some ⟨x, 2 + xv, none⟩)) := by rw [cell_of_row _ _ _ _ _ _ k4y]; rfl
        have w1 : x < w7.heap.size := (Array.getElem?_eq_some_iff.1 hx8).1
        have w2 : V.heap.size < w7.heap.size := (Array.getElem?_eq_some_iff.1 k4y).1
        have hu8 : U64 (nget st2.1 xv) := Nat.lt_trans (HG2.out.f.lt xv) (by decide)
        have hbu8 : U64 (bitN v) := U64.bit hv64
        have HX8 := Lib.hid hx8; have HC8 := Lib.hid hc8; have H8 := Lib.hid h8; have HK8 := Lib.hid hk8
        clear hx8 hc8 h8 hk8 k4y xfr
        gi_wp2_with fail
        refine wpIn_region_qbt 6 (by kernel_rfl) (by kernel_rfl) (by rintro ⟨a, w, h⟩; exact h) ?_
        simp only [List.take_succ_cons, List.take_zero, List.drop_succ_cons, List.drop_zero]
        repeat go_big_quiet_step ((exact Gives.quiet (Gives.of_same (one_any v _ hv64))))
        refine wpQuiet_nil ?_
        intro w9 hb9
        have hx9 := heap_later HX8.out hb9 w1
        have c9 := (propC_cells hlen8 hx9).2.2.1 xv hxv8
        have f9 := (propC_cells hlen8 hx9).2.2.2.2.2 (2 + xv)
        have HB9 := Lib.hid hb9; have HX9 := Lib.hid hx9
        clear hb9 hx9 xcs p8
        go_wp2_with fail
        have hps := prop_set hlen8 hxv8 (sDiff (nget st2.1 xv) (bitN v)) HX9.out
        refine ⟨((HK8.out.below HB9.out).setCell (by show x ≠ w4.heap.size; have := HNE.out; omega) _), ⟨⟨lv2, ?_, ?_⟩, (H8.out.below HB9.out).setCell (.inl rfl) _⟩⟩
        · rw [HNX.out]; exact hps
        · rw [HNX.out]
          exact (HC8.out.kt ((KT.of_ck (CK.below HB9.out)).hole w4.heap.size)).kt ((KT.set HX9.out (by decide) (by decide) _).hole w4.heap.size)
      case true =>
        rw [if_pos rfl] at hnx2
        have HNX := Lib.hid hnx2
        clear hnx2
        gi_wp2_with fail
        have hcw := hc8.ck (CK.fill w4.heap.size w7)
        obtain ⟨la, lc, rfl⟩ : ∃ a c, lv2 = .slice a st2.2.length c := by obtain ⟨cs, h, _⟩ := hcw; exact own_form h
        have e0 := h8.same _ _ K0.out (two_no (by omega) (by have := HNE.out; omega)) (.inr (nT (by decide)))
        have e1 := h8.same _ _ K1.out (two_no (by omega) (by have := HNE.out; omega)) (.inr (nT (by decide)))
        have e2 := h8.same _ _ K2.out (two_no (by omega) (by have := HNE.out; omega)) (.inr (nT (by decide)))
        have e3 := h8.same _ _ K3.out (two_no (by have := HNE.out; omega) (by have := HNE.out; omega)) (.inr (nT (by decide)))
        have hb7' : Below B w w7 := (GR6.out.through h8 (by have := HNE.out; omega)).toBelow hBb (by omega) (fun q hq h => by unfold One at h; omega)
        have hS2 : ∀ Y : World, Y.heap[w.heap.size]? = some (.cells #[.pointer (some ⟨x, 0, none⟩)] 75 (0, 0)) → Y.heap[w.heap.size + 1]? = some (.cells #[.int .i64 n] 3 (0, 0)) → Y.heap[w.heap.size + 1 + 1]? = some (.cells #[.int .i64 i] 3 (0, 0)) →
            Y.heap[W.heap.size]? = some (.cells #[.int .i64 r.kind, .slice (some ⟨vb, vo, none⟩) r.vars.length vc, .slice na r.nums.length nc, .int .i64 r.n] 69 (0, 0)) → Below B w Y →
            Y.cell? ⟨w.heap.size, 0, none⟩ = some (.pointer (some ⟨x, 0, none⟩)) ∧ Y.cell? ⟨W.heap.size, 1, none⟩ = some (.slice (some ⟨vb, vo, none⟩) r.vars.length vc) ∧ Y.cell? ⟨w.heap.size + 1 + 1, 0, none⟩ = some (.int .i64 i) ∧ Y.cell? ⟨vb, vo + i, none⟩ = some (.int .i64 xv) ∧ Y.cell? ⟨w.heap.size + 1, 0, none⟩ = some (.int .i64 n) := fun Y a0 a1 a2 a3 hb => by
          refine ⟨?_, ?_, ?_, (hb.cell (p := ⟨vb, vo + i, none⟩) (by show vb < B; omega)).trans HV0w.out, ?_⟩
          · rw [cell_of_row _ _ _ _ _ _ a0]; rfl
          · rw [cell_of_row _ _ _ _ _ _ a3]; rfl
          · rw [cell_of_row _ _ _ _ _ _ a2]; rfl
          · rw [cell_of_row _ _ _ _ _ _ a1]; rfl
        have hw7 : w6.heap.size ≤ w7.heap.size := h8.size
        have hS : ∀ Y : World, Below w7.heap.size w7 Y → Y.cell? ⟨w.heap.size, 0, none⟩ = some (.pointer (some ⟨x, 0, none⟩)) ∧ Y.cell? ⟨W.heap.size, 1, none⟩ = some (.slice (some ⟨vb, vo, none⟩) r.vars.length vc) ∧ Y.cell? ⟨w.heap.size + 1 + 1, 0, none⟩ = some (.int .i64 i) ∧ Y.cell? ⟨vb, vo + i, none⟩ = some (.int .i64 xv) ∧ Y.cell? ⟨w.heap.size + 1, 0, none⟩ = some (.int .i64 n) := fun Y hb =>
          hS2 Y (heap_later e0 hb (Array.getElem?_eq_some_iff.1 e0).1) (heap_later e1 hb (Array.getElem?_eq_some_iff.1 e1).1) (heap_later e2 hb (Array.getElem?_eq_some_iff.1 e2).1) (heap_later e3 hb (Array.getElem?_eq_some_iff.1 e3).1) (hb7'.trans (hb.mono (by omega)))
        have hfew := HG2.out.few
        obtain ⟨ys, hys⟩ : ∃ ys, (reasonD p st2.2 ⟨xv, v, n, []⟩).why = ys := ⟨_, rfl⟩
        have HYS := Lib.hid hys
        have HS := Lib.hid hS; have HS2 := Lib.hid hS2; have HX8 := Lib.hid hx8; have HC8 := Lib.hid hcw; have H8 := Lib.hid h8; have HK8 := Lib.hid hk8; have E0 := Lib.hid e0; have E1 := Lib.hid e1; have E2 := Lib.hid e2; have E3 := Lib.hid e3; have HB7' := Lib.hid hb7'
        clear hS hS2 hx8 hc8 hcw h8 hk8 e0 e1 e2 e3 hb7' m07 x11 hys
        apply wpIn_mid (R := fun (ya : Option Addr) (yc kb g5 cp : Nat) Y => Y.heap[x]? = some (.cells (propC (.slice da p.doms.length dc) (.slice (some ⟨rb, ro, none⟩) p.rules.length rc) st2.1 (.slice (some ⟨g5, 0, none⟩) (st2.2.length + 1) cp) true).toArray 80 (0, 0)) ∧ COwn (hole w4.heap.size Y) base (.slice (some ⟨g5, 0, none⟩) (st2.2.length + 1) cp) (st2.2 ++ [reasonD p st2.2 ⟨xv, v, n, []⟩]) ∧
          KeptT 73 (Two x w4.heap.size) base w6 Y ∧ Keep w4.heap.size w6.heap.size V2 Y)
        case h =>
          refine wpIn_region_all (by kernel_rfl) (by kernel_rfl) (by rintro ⟨a, w, h⟩; exact h) ?_
          refine wpAny_of_held (S := fun Y => Y.cell? ⟨w.heap.size, 0, none⟩ = some (.pointer (some ⟨x, 0, none⟩)) ∧ Y.cell? ⟨W.heap.size, 1, none⟩ = some (.slice (some ⟨vb, vo, none⟩) r.vars.length vc) ∧ Y.cell? ⟨w.heap.size + 1 + 1, 0, none⟩ = some (.int .i64 i) ∧ Y.cell? ⟨vb, vo + i, none⟩ = some (.int .i64 xv) ∧ Y.cell? ⟨w.heap.size + 1, 0, none⟩ = some (.int .i64 n)) _ _ _ _ ?_
          change wpAnyH _ _ swpAOps _ _ _ _ _ _
          have hHeld := HS.out w7 (Below.refl _ _)
          refine abs_anyHS (fun Y => Below w7.heap.size w7 Y) (Below.drewn (Below.refl _ _)) hHeld ?_
          clear hHeld
          rintro w8 hb8 hHeld
          have HBY := Lib.hid hb8
          clear hb8
          refine wpAnyH_take (i := 0) (oi := { dst := some 44, op := Op.load 75 (Operand.tmp 3), type := 75, pos := "domain.go:268", after := #[], guard := none }) (v := ?_) rfl (by kernel_rfl) (by kernel_rfl) (by kernel_rfl) (fun _ _ _ h => h) (Or.inl ⟨by kernel_rfl, ?_⟩) hHeld ?_
          rotate_left
          · intro w hSw
            try dsimp only at hSw
            obtain ⟨hs0, hs1, hs2, hs3, hs4⟩ := hSw
            go_simp
            try with_reducible rfl
          try simp only [Act.put, List.setIfInBounds_toArray, List.set_cons_zero, List.set_cons_succ]
          refine wpAnyH_take (i := 1) (oi := { dst := some 45, op := Op.load 75 (Operand.tmp 3), type := 75, pos := "domain.go:268", after := #[], guard := none }) (v := ?_) rfl (by kernel_rfl) (by kernel_rfl) (by kernel_rfl) (fun _ _ _ h => h) (Or.inl ⟨by kernel_rfl, ?_⟩) hHeld ?_
          rotate_left
          · intro w hSw
            try dsimp only at hSw
            obtain ⟨hs0, hs1, hs2, hs3, hs4⟩ := hSw
            go_simp
            try with_reducible rfl
          try simp only [Act.put, List.setIfInBounds_toArray, List.set_cons_zero, List.set_cons_succ]
          refine wpAnyH_take (i := 2) (oi := { dst := some 46, op := Op.nilCheck (Operand.tmp 45), type := 0, pos := "domain.go:268", after := #[{ on := 1, ground := Ground.data }], guard := none }) (v := ?_) rfl (by kernel_rfl) (by kernel_rfl) (by kernel_rfl) (fun _ _ _ h => h) (Or.inl ⟨by kernel_rfl, ?_⟩) hHeld ?_
          rotate_left
          · intro w hSw
            try dsimp only at hSw
            obtain ⟨hs0, hs1, hs2, hs3, hs4⟩ := hSw
            go_simp
            try with_reducible rfl
          try simp only [Act.put, List.setIfInBounds_toArray, List.set_cons_zero, List.set_cons_succ]
          refine wpAnyH_take (i := 3) (oi := { dst := some 47, op := Op.fieldAddr 80 (Operand.tmp 46) 2, type := 0, pos := "domain.go:268", after := #[{ on := 2, ground := Ground.data }], guard := none }) (v := ?_) rfl (by kernel_rfl) (by kernel_rfl) (by kernel_rfl) (fun _ _ _ h => h) (Or.inl ⟨by kernel_rfl, ?_⟩) hHeld ?_
          rotate_left
          · intro w hSw
            try dsimp only at hSw
            obtain ⟨hs0, hs1, hs2, hs3, hs4⟩ := hSw
            go_simp
            try with_reducible rfl
          try simp only [Act.put, List.setIfInBounds_toArray, List.set_cons_zero, List.set_cons_succ]
          refine wpAnyH_take (i := 5) (oi := { dst := some 49, op := Op.load 75 (Operand.tmp 3), type := 75, pos := "domain.go:268", after := #[], guard := none }) (v := ?_) rfl (by kernel_rfl) (by kernel_rfl) (by kernel_rfl) (fun _ _ _ h => h) (Or.inl ⟨by kernel_rfl, ?_⟩) hHeld ?_
          rotate_left
          · intro w hSw
            try dsimp only at hSw
            obtain ⟨hs0, hs1, hs2, hs3, hs4⟩ := hSw
            go_simp
            try with_reducible rfl
          try simp only [Act.put, List.setIfInBounds_toArray, List.set_cons_zero, List.set_cons_succ]
          refine wpAnyH_take (i := 6) (oi := { dst := some 50, op := Op.fieldAddr 69 (Operand.tmp 7) 1, type := 0, pos := "domain.go:268", after := #[], guard := none }) (v := ?_) rfl (by kernel_rfl) (by kernel_rfl) (by kernel_rfl) (fun _ _ _ h => h) (Or.inl ⟨by kernel_rfl, ?_⟩) hHeld ?_
          rotate_left
          · intro w hSw
            try dsimp only at hSw
            obtain ⟨hs0, hs1, hs2, hs3, hs4⟩ := hSw
            go_simp
            try with_reducible rfl
          try simp only [Act.put, List.setIfInBounds_toArray, List.set_cons_zero, List.set_cons_succ]
          refine wpAnyH_take (i := 7) (oi := { dst := some 51, op := Op.load 39 (Operand.tmp 50), type := 39, pos := "domain.go:268", after := #[{ on := 6, ground := Ground.data }], guard := none }) (v := ?_) rfl (by kernel_rfl) (by kernel_rfl) (by kernel_rfl) (fun _ _ _ h => h) (Or.inl ⟨by kernel_rfl, ?_⟩) hHeld ?_
          rotate_left
          · intro w hSw
            try dsimp only at hSw
            obtain ⟨hs0, hs1, hs2, hs3, hs4⟩ := hSw
            go_simp
            try with_reducible rfl
          try simp only [Act.put, List.setIfInBounds_toArray, List.set_cons_zero, List.set_cons_succ]
          refine wpAnyH_take (i := 8) (oi := { dst := some 52, op := Op.load 3 (Operand.tmp 5), type := 3, pos := "domain.go:268", after := #[], guard := none }) (v := ?_) rfl (by kernel_rfl) (by kernel_rfl) (by kernel_rfl) (fun _ _ _ h => h) (Or.inl ⟨by kernel_rfl, ?_⟩) hHeld ?_
          rotate_left
          · intro w hSw
            try dsimp only at hSw
            obtain ⟨hs0, hs1, hs2, hs3, hs4⟩ := hSw
            go_simp
            try with_reducible rfl
          try simp only [Act.put, List.setIfInBounds_toArray, List.set_cons_zero, List.set_cons_succ]
          refine wpAnyH_take (i := 9) (oi := { dst := some 53, op := Op.indexAddr 39 (Operand.tmp 51) (Operand.tmp 52), type := 0, pos := "domain.go:268", after := #[{ on := 7, ground := Ground.data }, { on := 8, ground := Ground.data }], guard := none }) (v := ?_) rfl (by kernel_rfl) (by kernel_rfl) (by kernel_rfl) (fun _ _ _ h => h) (Or.inl ⟨by kernel_rfl, ?_⟩) hHeld ?_
          rotate_left
          · intro w hSw
            try dsimp only at hSw
            obtain ⟨hs0, hs1, hs2, hs3, hs4⟩ := hSw
            go_simp
            try with_reducible rfl
          try simp only [Act.put, List.setIfInBounds_toArray, List.set_cons_zero, List.set_cons_succ]
          refine wpAnyH_take (i := 10) (oi := { dst := some 54, op := Op.load 3 (Operand.tmp 53), type := 3, pos := "domain.go:268", after := #[{ on := 9, ground := Ground.data }], guard := none }) (v := ?_) rfl (by kernel_rfl) (by kernel_rfl) (by kernel_rfl) (fun _ _ _ h => h) (Or.inl ⟨by kernel_rfl, ?_⟩) hHeld ?_
          rotate_left
          · intro w hSw
            try dsimp only at hSw
            obtain ⟨hs0, hs1, hs2, hs3, hs4⟩ := hSw
            go_simp
            try with_reducible rfl
          try simp only [Act.put, List.setIfInBounds_toArray, List.set_cons_zero, List.set_cons_succ]
          refine wpAnyH_take (i := 11) (oi := { dst := some 55, op := Op.move (Operand.tmp 9), type := 3, pos := "domain.go:268", after := #[], guard := none }) (v := ?_) rfl (by kernel_rfl) (by kernel_rfl) (by kernel_rfl) (fun _ _ _ h => h) (Or.inl ⟨by kernel_rfl, ?_⟩) hHeld ?_
          rotate_left
          · intro w hSw
            try dsimp only at hSw
            obtain ⟨hs0, hs1, hs2, hs3, hs4⟩ := hSw
            go_simp
            try with_reducible rfl
          try simp only [Act.put, List.setIfInBounds_toArray, List.set_cons_zero, List.set_cons_succ]
          refine wpAnyH_take (i := 12) (oi := { dst := some 56, op := Op.load 3 (Operand.tmp 4), type := 3, pos := "domain.go:268", after := #[], guard := none }) (v := ?_) rfl (by kernel_rfl) (by kernel_rfl) (by kernel_rfl) (fun _ _ _ h => h) (Or.inl ⟨by kernel_rfl, ?_⟩) hHeld ?_
          rotate_left
          · intro w hSw
            try dsimp only at hSw
            obtain ⟨hs0, hs1, hs2, hs3, hs4⟩ := hSw
            go_simp
            try with_reducible rfl
          try simp only [Act.put, List.setIfInBounds_toArray, List.set_cons_zero, List.set_cons_succ]
          refine wpAnyH_take (i := 13) (oi := { dst := some 57, op := Op.build 73 #[(0, Operand.tmp 54), (1, Operand.tmp 55), (2, Operand.tmp 56)], type := 73, pos := "domain.go:268", after := #[{ on := 10, ground := Ground.data }, { on := 11, ground := Ground.data }, { on := 12, ground := Ground.data }], guard := none }) (v := ?_) rfl (by kernel_rfl) (by kernel_rfl) (by kernel_rfl) (fun _ _ _ h => h) (Or.inl ⟨by kernel_rfl, ?_⟩) hHeld ?_
          rotate_left
          · intro w hSw
            try dsimp only at hSw
            obtain ⟨hs0, hs1, hs2, hs3, hs4⟩ := hSw
            go_simp
            try with_reducible rfl
          try simp only [Act.put, List.setIfInBounds_toArray, List.set_cons_zero, List.set_cons_succ]
          refine wpAnyH_ready (rs := [4, 14]) (by kernel_rfl) (by simp) ?_
          refine AllReadyH.cons (o := { dst := some 48, op := Op.load 28 (Operand.tmp 47), type := 28, pos := "domain.go:268", after := #[{ on := 3, ground := Ground.data }], guard := none }) rfl (fun K hK => ?_) (AllReadyH.cons (o := { dst := some 58, op := Op.call { callee := Callee.value (Operand.func 110), args := #[Operand.tmp 49, Operand.tmp 57], argTypes := #[75, 73] }, type := 73, pos := "domain.go:268", after := #[{ on := 5, ground := Ground.data }, { on := 13, ground := Ground.data }], guard := none }) rfl (fun K hK => ?_) AllReadyH.nil)
          · have x10 := (propC_cells hlen8 (heap_later HX8.out HBY.out (Array.getElem?_eq_some_iff.1 HX8.out).1)).2.2.2.1
            go_simp
            refine hK.out _ _ (hHeld) (fun hHeld => ?_)
            clear hK K
            try simp only [Act.put, List.setIfInBounds_toArray, List.set_cons_zero, List.set_cons_succ]
            clear x10
            refine wpAnyH_ready (rs := [14]) (by kernel_rfl) (by simp) ?_
            refine AllReadyH.cons (o := { dst := some 58, op := Op.call { callee := Callee.value (Operand.func 110), args := #[Operand.tmp 49, Operand.tmp 57], argTypes := #[75, 73] }, type := 73, pos := "domain.go:268", after := #[{ on := 5, ground := Ground.data }, { on := 13, ground := Ground.data }], guard := none }) rfl (fun K hK => ?_) AllReadyH.nil
            go_simp
            have hbB8 : Below B w w8 := HB7'.out.trans (HBY.out.mono (by omega))
            have hx8 := heap_later HX8.out HBY.out (Array.getElem?_eq_some_iff.1 HX8.out).1
            have hc8 := HC8.out.ck (CK.below HBY.out)
            have hzY : w7.heap.size ≤ w8.heap.size := HBY.out.size
            refine (reason_any p st2.2 xv v n st2.1 true _ _ _ x w8 (B := w8.heap.size) ((HDV.out.below hbB8 (Nat.le_refl _)).mono (by omega)) ((HRV.out.below hbB8 (Nat.le_refl _)).mono (by omega)) (hc8.cts (by omega) (fun j hj => by have := HG2.out.why j hj; omega)) (by omega) (Nat.le_refl _) hx8 hlen8 HPO.out HG2.out.fit (by omega) hnl HMEM.out (HT.out.below hbB8 hB0)).mono ?_
            rintro e10 w10 ⟨yv, rfl, hyo, hb10⟩
            obtain ⟨ya, yc, rfl⟩ := own_form hyo
            rw [HYS.out] at hyo ⊢
            have hbz := HBY.out.trans (hb10.mono HBY.out.size)
            have HYO := Lib.hid (own_mono hyo (show base ≤ w8.heap.size by omega))
            clear hyo hb10 hbB8 hx8 hc8 HBY
            go_wp2_with fail
            refine hK.out _ _ (HS.out w10 hbz) (fun hHeld => ?_)
            clear hK K
            try simp only [Act.put, List.setIfInBounds_toArray, List.set_cons_zero, List.set_cons_succ]
            have HBY := Lib.hid hbz
            clear hbz
            refine wpAnyH_ready (rs := [15]) (by kernel_rfl) (by simp) ?_
            refine AllReadyH.cons (o := { dst := some 59, op := Op.buildSlice 28 1 #[(0, Operand.tmp 58)], type := 28, pos := "domain.go:268", after := #[{ on := 14, ground := Ground.data }], guard := none }) rfl (fun K hK => ?_) AllReadyH.nil
            go_simp
            obtain ⟨kb, hkb⟩ : ∃ q, q = w10.heap.size := ⟨_, rfl⟩
            have hnx := Below.new1 w10 (.cells #[.int .i64 xv, .int .i64 v, .int .i64 n, .slice ya ys.length yc] 73)
            have hkx := heap_new0 w10 (.cells #[.int .i64 xv, .int .i64 v, .int .i64 n, .slice ya ys.length yc] 73)
            have hbx := HBY.out.trans (hnx.mono HBY.out.size)
            have hyx := own_ck HYO.out (CK.below hnx)
            try rw [← hkb]
            rw [← hkb] at hkx
            clear hkb hnx HYO HBY
            refine hK.out _ _ (HS.out _ hbx) (fun hHeld => ?_)
            clear hK K
            try simp only [Act.put, List.setIfInBounds_toArray, List.set_cons_zero, List.set_cons_succ]
            obtain ⟨X1, hZZ⟩ : ∃ Z, Z = w10.alloc (.cells #[.int .i64 xv, .int .i64 v, .int .i64 n, .slice ya ys.length yc] 73) := ⟨_, rfl⟩
            rw [← hZZ] at hkx hbx hyx hHeld ⊢
            have HKB := Lib.hid hkx; have HBY := Lib.hid hbx; have HYO := Lib.hid hyx
            clear hkx hbx hyx hZZ
            refine wpAnyH_ready (rs := [16]) (by kernel_rfl) (by simp) ?_
            refine AllReadyH.cons (o := { dst := some 60, op := Op.call { callee := Callee.builtin Builtin.append, args := #[Operand.tmp 48, Operand.tmp 59], argTypes := #[28, 28] }, type := 28, pos := "domain.go:268", after := #[{ on := 4, ground := Ground.data }, { on := 15, ground := Ground.data }, { on := 14, ground := Ground.chain }], guard := none }) rfl (fun K hK => ?_) AllReadyH.nil
            rw [if_pos (by rfl)]
            obtain ⟨cs, hcs, hcr⟩ := HC8.out
            have hck := CK.below HBY.out
            have hcs1 := own_ck hcs hck
            obtain ⟨i0, hin, hz0, hz1, hz2⟩ := info_parts infoC
            refine wp_append_own X1 _ _ 28 rfl base 73 i0 _ 4 48 Tryz.underlying28 hin hz0 hz1 hz2 rfl (by decide) (.slice la st2.2.length lc) st2.2.length cs rfl hcs1 ⟨kb, 0, none⟩ 1 1 [.int .i64 xv, .int .i64 v, .int .i64 n, .slice ya ys.length yc] rfl rfl ?_ ?_ (by unfold maxLen; omega) (by omega) (by have := HBY.out.size; omega) ?_
            · intro q u hq
              rw [Addr.add_lit, Nat.zero_add, cell_of_row _ _ _ _ _ _ HKB.out, List.getElem?_toArray]; exact hq
            · intro u hu
              simp only [List.mem_cons, List.not_mem_nil, or_false] at hu
              rcases hu with rfl | rfl | rfl | rfl <;> rfl
            intro v' X2 hown2 hgrow2 _
            obtain ⟨g5, cp, rfl⟩ := Slice.own_succ hown2
            have key : ∀ (q : Nat) (c : Array Value) (t : TypeId), t ≠ 73 → w7.heap[q]? = some (.cells c t (0, 0)) → X2.heap[q]? = some (.cells c t (0, 0)) := fun q c t hne e => by
              have e1 := heap_later e HBY.out (Array.getElem?_eq_some_iff.1 e).1
              exact (hgrow2.block q (Array.getElem?_eq_some_iff.1 e1).1 (fun hh => own_apart hcs1 e1 hne _ hh.symm rfl)).trans e1
            have e0 := key _ _ _ (by decide) E0.out
            have e1 := key _ _ _ (by decide) E1.out
            have e2 := key _ _ _ (by decide) E2.out
            have e3 := key _ _ _ (by decide) E3.out
            have ex := key _ _ _ (by decide) HX8.out
            have hbX2 : Below B w X2 := HB7'.out.trans ((HBY.out.mono (by omega)).grown hgrow2 (by have := HBY.out.size; omega) (fun q hq => by have := (hcs1.lt q hq).1; omega))
            have hco2 : COwn X2 base (.slice (some ⟨g5, 0, none⟩) (st2.2.length + 1) cp) (st2.2 ++ [reasonD p st2.2 ⟨xv, v, n, []⟩]) := COwn.appended (c := reasonD p st2.2 ⟨xv, v, n, []⟩) hcs1 hgrow2 (fun j hj => by
              obtain ⟨a1, a2, a3, yw, a5, a6⟩ := hcr j hj
              exact ⟨a1, a2, a3, yw, a5, own_ck a6 hck⟩) (by rw [HYS.out]; exact HYO.out) hown2
            have hkp2 := (H8.out.below HBY.out).grown hcs1 hgrow2
            obtain ⟨cB, hcB⟩ := HBS0.out
            have hB7 := HK8.out _ _ hcB (.inl rfl)
            have hB1 := heap_later hB7 HBY.out (Array.getElem?_eq_some_iff.1 hB7).1
            have hke2 := (HK8.out.below HBY.out).grown hcs1 hgrow2 (own_apart hcs1 hB1 (by decide))
            have hB2 := hke2 _ _ hcB (.inl rfl)
            have hs2 := HS2.out X2 e0 e1 e2 e3 hbX2
            have h10 := (propC_cells hlen8 ex).2.2.2.1
            have f10 := (propC_cells hlen8 ex).2.2.2.2.2 10
            have hs3 : ∀ u, _ := fun u => HS2.out (X2.setCell ⟨x, 10, none⟩ u) ((Below.heap_setCell _ _ _ _ (ne_of_types e0 ex (by decide))).trans e0) ((Below.heap_setCell _ _ _ _ (ne_of_types e1 ex (by decide))).trans e1) ((Below.heap_setCell _ _ _ _ (ne_of_types e2 ex (by decide))).trans e2) ((Below.heap_setCell _ _ _ _ (ne_of_types e3 ex (by decide))).trans e3) (hbX2.setCell (p := ⟨x, 10, none⟩) hB _)
            have HS3 := Lib.hid hs3
            have HEX := Lib.hid ex; have HCO2 := Lib.hid hco2; have HKP2 := Lib.hid hkp2; have HKE2 := Lib.hid hke2; have HB2 := Lib.hid hB2
            clear key hown2 hgrow2 hcs1 hck hcs hcr hco2 hkp2 hke2 hB2 hB1 hB7 hcB hHeld ex e0 e1 e2 e3 hs3
            refine hK.out _ _ (hs2) (fun hHeld => ?_)
            clear hK K
            try simp only [Act.put, List.setIfInBounds_toArray, List.set_cons_zero, List.set_cons_succ]
            refine wpAnyH_take (i := 17) (oi := { dst := some 61, op := Op.nilCheck (Operand.tmp 44), type := 0, pos := "domain.go:268", after := #[{ on := 0, ground := Ground.data }, { on := 0, ground := Ground.phase }, { on := 1, ground := Ground.phase }, { on := 2, ground := Ground.phase }, { on := 3, ground := Ground.phase }, { on := 4, ground := Ground.phase }, { on := 5, ground := Ground.phase }, { on := 6, ground := Ground.phase }, { on := 7, ground := Ground.phase }, { on := 8, ground := Ground.phase }, { on := 9, ground := Ground.phase }, { on := 10, ground := Ground.phase }, { on := 11, ground := Ground.phase }, { on := 12, ground := Ground.phase }, { on := 13, ground := Ground.phase }, { on := 14, ground := Ground.phase }, { on := 15, ground := Ground.phase }, { on := 16, ground := Ground.phase }], guard := none }) (v := ?_) rfl (by kernel_rfl) (by kernel_rfl) (by kernel_rfl) (fun _ _ _ h => h) (Or.inl ⟨by kernel_rfl, ?_⟩) hHeld ?_
            rotate_left
            · intro w hSw
              try dsimp only at hSw
              obtain ⟨hs0, hs1, hs2, hs3, hs4⟩ := hSw
              go_simp
              try with_reducible rfl
            try simp only [Act.put, List.setIfInBounds_toArray, List.set_cons_zero, List.set_cons_succ]
            refine wpAnyH_take (i := 18) (oi := { dst := some 62, op := Op.fieldAddr 80 (Operand.tmp 61) 2, type := 0, pos := "domain.go:268", after := #[{ on := 17, ground := Ground.data }, { on := 0, ground := Ground.phase }, { on := 1, ground := Ground.phase }, { on := 2, ground := Ground.phase }, { on := 3, ground := Ground.phase }, { on := 4, ground := Ground.phase }, { on := 5, ground := Ground.phase }, { on := 6, ground := Ground.phase }, { on := 7, ground := Ground.phase }, { on := 8, ground := Ground.phase }, { on := 9, ground := Ground.phase }, { on := 10, ground := Ground.phase }, { on := 11, ground := Ground.phase }, { on := 12, ground := Ground.phase }, { on := 13, ground := Ground.phase }, { on := 14, ground := Ground.phase }, { on := 15, ground := Ground.phase }, { on := 16, ground := Ground.phase }], guard := none }) (v := ?_) rfl (by kernel_rfl) (by kernel_rfl) (by kernel_rfl) (fun _ _ _ h => h) (Or.inl ⟨by kernel_rfl, ?_⟩) hHeld ?_
            rotate_left
            · intro w hSw
              try dsimp only at hSw
              obtain ⟨hs0, hs1, hs2, hs3, hs4⟩ := hSw
              go_simp
              try with_reducible rfl
            try simp only [Act.put, List.setIfInBounds_toArray, List.set_cons_zero, List.set_cons_succ]
            refine wpAnyH_ready (rs := [19]) (by kernel_rfl) (by simp) ?_
            refine AllReadyH.cons (o := { dst := none, op := Op.store 28 (Operand.tmp 62) (Operand.tmp 60), type := 0, pos := "domain.go:268", after := #[{ on := 18, ground := Ground.data }, { on := 16, ground := Ground.data }, { on := 16, ground := Ground.chain }, { on := 0, ground := Ground.phase }, { on := 1, ground := Ground.phase }, { on := 2, ground := Ground.phase }, { on := 3, ground := Ground.phase }, { on := 4, ground := Ground.phase }, { on := 5, ground := Ground.phase }, { on := 6, ground := Ground.phase }, { on := 7, ground := Ground.phase }, { on := 8, ground := Ground.phase }, { on := 9, ground := Ground.phase }, { on := 10, ground := Ground.phase }, { on := 11, ground := Ground.phase }, { on := 12, ground := Ground.phase }, { on := 13, ground := Ground.phase }, { on := 14, ground := Ground.phase }, { on := 15, ground := Ground.phase }, { on := 16, ground := Ground.phase }], guard := none }) rfl (fun K hK => ?_) AllReadyH.nil
            go_simp
            refine hK.out _ _ (HS3.out _) (fun hHeld => ?_)
            clear hK K
            try simp only [Act.put, List.setIfInBounds_toArray, List.set_cons_zero, List.set_cons_succ]
            refine wpAnyH_done (by kernel_rfl) ?_ _
            dsimp only [onlyN]
            exact ⟨ya, yc, kb, g5, cp, rfl, prop_cuts hlen8 _ HEX.out, (HCO2.out.hole HB2.out (by decide) (by decide)).kt ((KT.set HEX.out (by decide) (by decide) _).hole w4.heap.size), HKP2.out.setCell (.inl rfl) _, HKE2.out.setCell (by show x ≠ w4.heap.size; have := HNE.out; omega) _⟩
          · go_simp
            have hbB8 : Below B w w8 := HB7'.out.trans (HBY.out.mono (by omega))
            have hx8 := heap_later HX8.out HBY.out (Array.getElem?_eq_some_iff.1 HX8.out).1
            have hc8 := HC8.out.ck (CK.below HBY.out)
            have hzY : w7.heap.size ≤ w8.heap.size := HBY.out.size
            refine (reason_any p st2.2 xv v n st2.1 true _ _ _ x w8 (B := w8.heap.size) ((HDV.out.below hbB8 (Nat.le_refl _)).mono (by omega)) ((HRV.out.below hbB8 (Nat.le_refl _)).mono (by omega)) (hc8.cts (by omega) (fun j hj => by have := HG2.out.why j hj; omega)) (by omega) (Nat.le_refl _) hx8 hlen8 HPO.out HG2.out.fit (by omega) hnl HMEM.out (HT.out.below hbB8 hB0)).mono ?_
            rintro e10 w10 ⟨yv, rfl, hyo, hb10⟩
            obtain ⟨ya, yc, rfl⟩ := own_form hyo
            rw [HYS.out] at hyo ⊢
            have hbz := HBY.out.trans (hb10.mono HBY.out.size)
            have HYO := Lib.hid (own_mono hyo (show base ≤ w8.heap.size by omega))
            clear hyo hb10 hbB8 hx8 hc8 HBY
            go_wp2_with fail
            refine hK.out _ _ (HS.out w10 hbz) (fun hHeld => ?_)
            clear hK K
            try simp only [Act.put, List.setIfInBounds_toArray, List.set_cons_zero, List.set_cons_succ]
            have HBY := Lib.hid hbz
            clear hbz
            refine wpAnyH_ready (rs := [4, 15]) (by kernel_rfl) (by simp) ?_
            refine AllReadyH.cons (o := { dst := some 48, op := Op.load 28 (Operand.tmp 47), type := 28, pos := "domain.go:268", after := #[{ on := 3, ground := Ground.data }], guard := none }) rfl (fun K hK => ?_) (AllReadyH.cons (o := { dst := some 59, op := Op.buildSlice 28 1 #[(0, Operand.tmp 58)], type := 28, pos := "domain.go:268", after := #[{ on := 14, ground := Ground.data }], guard := none }) rfl (fun K hK => ?_) AllReadyH.nil)
            · have x10 := (propC_cells hlen8 (heap_later HX8.out HBY.out (Array.getElem?_eq_some_iff.1 HX8.out).1)).2.2.2.1
              go_simp
              refine hK.out _ _ (hHeld) (fun hHeld => ?_)
              clear hK K
              try simp only [Act.put, List.setIfInBounds_toArray, List.set_cons_zero, List.set_cons_succ]
              clear x10
              refine wpAnyH_ready (rs := [15]) (by kernel_rfl) (by simp) ?_
              refine AllReadyH.cons (o := { dst := some 59, op := Op.buildSlice 28 1 #[(0, Operand.tmp 58)], type := 28, pos := "domain.go:268", after := #[{ on := 14, ground := Ground.data }], guard := none }) rfl (fun K hK => ?_) AllReadyH.nil
              go_simp
              obtain ⟨kb, hkb⟩ : ∃ q, q = w10.heap.size := ⟨_, rfl⟩
              have hnx := Below.new1 w10 (.cells #[.int .i64 xv, .int .i64 v, .int .i64 n, .slice ya ys.length yc] 73)
              have hkx := heap_new0 w10 (.cells #[.int .i64 xv, .int .i64 v, .int .i64 n, .slice ya ys.length yc] 73)
              have hbx := HBY.out.trans (hnx.mono HBY.out.size)
              have hyx := own_ck HYO.out (CK.below hnx)
              try rw [← hkb]
              rw [← hkb] at hkx
              clear hkb hnx HYO HBY
              refine hK.out _ _ (HS.out _ hbx) (fun hHeld => ?_)
              clear hK K
              try simp only [Act.put, List.setIfInBounds_toArray, List.set_cons_zero, List.set_cons_succ]
              obtain ⟨X1, hZZ⟩ : ∃ Z, Z = w10.alloc (.cells #[.int .i64 xv, .int .i64 v, .int .i64 n, .slice ya ys.length yc] 73) := ⟨_, rfl⟩
              rw [← hZZ] at hkx hbx hyx hHeld ⊢
              have HKB := Lib.hid hkx; have HBY := Lib.hid hbx; have HYO := Lib.hid hyx
              clear hkx hbx hyx hZZ
              refine wpAnyH_ready (rs := [16]) (by kernel_rfl) (by simp) ?_
              refine AllReadyH.cons (o := { dst := some 60, op := Op.call { callee := Callee.builtin Builtin.append, args := #[Operand.tmp 48, Operand.tmp 59], argTypes := #[28, 28] }, type := 28, pos := "domain.go:268", after := #[{ on := 4, ground := Ground.data }, { on := 15, ground := Ground.data }, { on := 14, ground := Ground.chain }], guard := none }) rfl (fun K hK => ?_) AllReadyH.nil
              rw [if_pos (by rfl)]
              obtain ⟨cs, hcs, hcr⟩ := HC8.out
              have hck := CK.below HBY.out
              have hcs1 := own_ck hcs hck
              obtain ⟨i0, hin, hz0, hz1, hz2⟩ := info_parts infoC
              refine wp_append_own X1 _ _ 28 rfl base 73 i0 _ 4 48 Tryz.underlying28 hin hz0 hz1 hz2 rfl (by decide) (.slice la st2.2.length lc) st2.2.length cs rfl hcs1 ⟨kb, 0, none⟩ 1 1 [.int .i64 xv, .int .i64 v, .int .i64 n, .slice ya ys.length yc] rfl rfl ?_ ?_ (by unfold maxLen; omega) (by omega) (by have := HBY.out.size; omega) ?_
              · intro q u hq
                rw [Addr.add_lit, Nat.zero_add, cell_of_row _ _ _ _ _ _ HKB.out, List.getElem?_toArray]; exact hq
              · intro u hu
                simp only [List.mem_cons, List.not_mem_nil, or_false] at hu
                rcases hu with rfl | rfl | rfl | rfl <;> rfl
              intro v' X2 hown2 hgrow2 _
              obtain ⟨g5, cp, rfl⟩ := Slice.own_succ hown2
              have key : ∀ (q : Nat) (c : Array Value) (t : TypeId), t ≠ 73 → w7.heap[q]? = some (.cells c t (0, 0)) → X2.heap[q]? = some (.cells c t (0, 0)) := fun q c t hne e => by
                have e1 := heap_later e HBY.out (Array.getElem?_eq_some_iff.1 e).1
                exact (hgrow2.block q (Array.getElem?_eq_some_iff.1 e1).1 (fun hh => own_apart hcs1 e1 hne _ hh.symm rfl)).trans e1
              have e0 := key _ _ _ (by decide) E0.out
              have e1 := key _ _ _ (by decide) E1.out
              have e2 := key _ _ _ (by decide) E2.out
              have e3 := key _ _ _ (by decide) E3.out
              have ex := key _ _ _ (by decide) HX8.out
              have hbX2 : Below B w X2 := HB7'.out.trans ((HBY.out.mono (by omega)).grown hgrow2 (by have := HBY.out.size; omega) (fun q hq => by have := (hcs1.lt q hq).1; omega))
              have hco2 : COwn X2 base (.slice (some ⟨g5, 0, none⟩) (st2.2.length + 1) cp) (st2.2 ++ [reasonD p st2.2 ⟨xv, v, n, []⟩]) := COwn.appended (c := reasonD p st2.2 ⟨xv, v, n, []⟩) hcs1 hgrow2 (fun j hj => by
                obtain ⟨a1, a2, a3, yw, a5, a6⟩ := hcr j hj
                exact ⟨a1, a2, a3, yw, a5, own_ck a6 hck⟩) (by rw [HYS.out]; exact HYO.out) hown2
              have hkp2 := (H8.out.below HBY.out).grown hcs1 hgrow2
              obtain ⟨cB, hcB⟩ := HBS0.out
              have hB7 := HK8.out _ _ hcB (.inl rfl)
              have hB1 := heap_later hB7 HBY.out (Array.getElem?_eq_some_iff.1 hB7).1
              have hke2 := (HK8.out.below HBY.out).grown hcs1 hgrow2 (own_apart hcs1 hB1 (by decide))
              have hB2 := hke2 _ _ hcB (.inl rfl)
              have hs2 := HS2.out X2 e0 e1 e2 e3 hbX2
              have h10 := (propC_cells hlen8 ex).2.2.2.1
              have f10 := (propC_cells hlen8 ex).2.2.2.2.2 10
              have hs3 : ∀ u, _ := fun u => HS2.out (X2.setCell ⟨x, 10, none⟩ u) ((Below.heap_setCell _ _ _ _ (ne_of_types e0 ex (by decide))).trans e0) ((Below.heap_setCell _ _ _ _ (ne_of_types e1 ex (by decide))).trans e1) ((Below.heap_setCell _ _ _ _ (ne_of_types e2 ex (by decide))).trans e2) ((Below.heap_setCell _ _ _ _ (ne_of_types e3 ex (by decide))).trans e3) (hbX2.setCell (p := ⟨x, 10, none⟩) hB _)
              have HS3 := Lib.hid hs3
              have HEX := Lib.hid ex; have HCO2 := Lib.hid hco2; have HKP2 := Lib.hid hkp2; have HKE2 := Lib.hid hke2; have HB2 := Lib.hid hB2
              clear key hown2 hgrow2 hcs1 hck hcs hcr hco2 hkp2 hke2 hB2 hB1 hB7 hcB hHeld ex e0 e1 e2 e3 hs3
              refine hK.out _ _ (hs2) (fun hHeld => ?_)
              clear hK K
              try simp only [Act.put, List.setIfInBounds_toArray, List.set_cons_zero, List.set_cons_succ]
              refine wpAnyH_take (i := 17) (oi := { dst := some 61, op := Op.nilCheck (Operand.tmp 44), type := 0, pos := "domain.go:268", after := #[{ on := 0, ground := Ground.data }, { on := 0, ground := Ground.phase }, { on := 1, ground := Ground.phase }, { on := 2, ground := Ground.phase }, { on := 3, ground := Ground.phase }, { on := 4, ground := Ground.phase }, { on := 5, ground := Ground.phase }, { on := 6, ground := Ground.phase }, { on := 7, ground := Ground.phase }, { on := 8, ground := Ground.phase }, { on := 9, ground := Ground.phase }, { on := 10, ground := Ground.phase }, { on := 11, ground := Ground.phase }, { on := 12, ground := Ground.phase }, { on := 13, ground := Ground.phase }, { on := 14, ground := Ground.phase }, { on := 15, ground := Ground.phase }, { on := 16, ground := Ground.phase }], guard := none }) (v := ?_) rfl (by kernel_rfl) (by kernel_rfl) (by kernel_rfl) (fun _ _ _ h => h) (Or.inl ⟨by kernel_rfl, ?_⟩) hHeld ?_
              rotate_left
              · intro w hSw
                try dsimp only at hSw
                obtain ⟨hs0, hs1, hs2, hs3, hs4⟩ := hSw
                go_simp
                try with_reducible rfl
              try simp only [Act.put, List.setIfInBounds_toArray, List.set_cons_zero, List.set_cons_succ]
              refine wpAnyH_take (i := 18) (oi := { dst := some 62, op := Op.fieldAddr 80 (Operand.tmp 61) 2, type := 0, pos := "domain.go:268", after := #[{ on := 17, ground := Ground.data }, { on := 0, ground := Ground.phase }, { on := 1, ground := Ground.phase }, { on := 2, ground := Ground.phase }, { on := 3, ground := Ground.phase }, { on := 4, ground := Ground.phase }, { on := 5, ground := Ground.phase }, { on := 6, ground := Ground.phase }, { on := 7, ground := Ground.phase }, { on := 8, ground := Ground.phase }, { on := 9, ground := Ground.phase }, { on := 10, ground := Ground.phase }, { on := 11, ground := Ground.phase }, { on := 12, ground := Ground.phase }, { on := 13, ground := Ground.phase }, { on := 14, ground := Ground.phase }, { on := 15, ground := Ground.phase }, { on := 16, ground := Ground.phase }], guard := none }) (v := ?_) rfl (by kernel_rfl) (by kernel_rfl) (by kernel_rfl) (fun _ _ _ h => h) (Or.inl ⟨by kernel_rfl, ?_⟩) hHeld ?_
              rotate_left
              · intro w hSw
                try dsimp only at hSw
                obtain ⟨hs0, hs1, hs2, hs3, hs4⟩ := hSw
                go_simp
                try with_reducible rfl
              try simp only [Act.put, List.setIfInBounds_toArray, List.set_cons_zero, List.set_cons_succ]
              refine wpAnyH_ready (rs := [19]) (by kernel_rfl) (by simp) ?_
              refine AllReadyH.cons (o := { dst := none, op := Op.store 28 (Operand.tmp 62) (Operand.tmp 60), type := 0, pos := "domain.go:268", after := #[{ on := 18, ground := Ground.data }, { on := 16, ground := Ground.data }, { on := 16, ground := Ground.chain }, { on := 0, ground := Ground.phase }, { on := 1, ground := Ground.phase }, { on := 2, ground := Ground.phase }, { on := 3, ground := Ground.phase }, { on := 4, ground := Ground.phase }, { on := 5, ground := Ground.phase }, { on := 6, ground := Ground.phase }, { on := 7, ground := Ground.phase }, { on := 8, ground := Ground.phase }, { on := 9, ground := Ground.phase }, { on := 10, ground := Ground.phase }, { on := 11, ground := Ground.phase }, { on := 12, ground := Ground.phase }, { on := 13, ground := Ground.phase }, { on := 14, ground := Ground.phase }, { on := 15, ground := Ground.phase }, { on := 16, ground := Ground.phase }], guard := none }) rfl (fun K hK => ?_) AllReadyH.nil
              go_simp
              refine hK.out _ _ (HS3.out _) (fun hHeld => ?_)
              clear hK K
              try simp only [Act.put, List.setIfInBounds_toArray, List.set_cons_zero, List.set_cons_succ]
              refine wpAnyH_done (by kernel_rfl) ?_ _
              dsimp only [onlyN]
              exact ⟨ya, yc, kb, g5, cp, rfl, prop_cuts hlen8 _ HEX.out, (HCO2.out.hole HB2.out (by decide) (by decide)).kt ((KT.set HEX.out (by decide) (by decide) _).hole w4.heap.size), HKP2.out.setCell (.inl rfl) _, HKE2.out.setCell (by show x ≠ w4.heap.size; have := HNE.out; omega) _⟩
            · go_simp
              obtain ⟨kb, hkb⟩ : ∃ q, q = w10.heap.size := ⟨_, rfl⟩
              have hnx := Below.new1 w10 (.cells #[.int .i64 xv, .int .i64 v, .int .i64 n, .slice ya ys.length yc] 73)
              have hkx := heap_new0 w10 (.cells #[.int .i64 xv, .int .i64 v, .int .i64 n, .slice ya ys.length yc] 73)
              have hbx := HBY.out.trans (hnx.mono HBY.out.size)
              have hyx := own_ck HYO.out (CK.below hnx)
              try rw [← hkb]
              rw [← hkb] at hkx
              clear hkb hnx HYO HBY
              refine hK.out _ _ (HS.out _ hbx) (fun hHeld => ?_)
              clear hK K
              try simp only [Act.put, List.setIfInBounds_toArray, List.set_cons_zero, List.set_cons_succ]
              obtain ⟨X1, hZZ⟩ : ∃ Z, Z = w10.alloc (.cells #[.int .i64 xv, .int .i64 v, .int .i64 n, .slice ya ys.length yc] 73) := ⟨_, rfl⟩
              rw [← hZZ] at hkx hbx hyx hHeld ⊢
              have HKB := Lib.hid hkx; have HBY := Lib.hid hbx; have HYO := Lib.hid hyx
              clear hkx hbx hyx hZZ
              refine wpAnyH_ready (rs := [4]) (by kernel_rfl) (by simp) ?_
              refine AllReadyH.cons (o := { dst := some 48, op := Op.load 28 (Operand.tmp 47), type := 28, pos := "domain.go:268", after := #[{ on := 3, ground := Ground.data }], guard := none }) rfl (fun K hK => ?_) AllReadyH.nil
              have x10 := (propC_cells hlen8 (heap_later HX8.out HBY.out (Array.getElem?_eq_some_iff.1 HX8.out).1)).2.2.2.1
              go_simp
              refine hK.out _ _ (hHeld) (fun hHeld => ?_)
              clear hK K
              try simp only [Act.put, List.setIfInBounds_toArray, List.set_cons_zero, List.set_cons_succ]
              clear x10
              refine wpAnyH_ready (rs := [16]) (by kernel_rfl) (by simp) ?_
              refine AllReadyH.cons (o := { dst := some 60, op := Op.call { callee := Callee.builtin Builtin.append, args := #[Operand.tmp 48, Operand.tmp 59], argTypes := #[28, 28] }, type := 28, pos := "domain.go:268", after := #[{ on := 4, ground := Ground.data }, { on := 15, ground := Ground.data }, { on := 14, ground := Ground.chain }], guard := none }) rfl (fun K hK => ?_) AllReadyH.nil
              rw [if_pos (by rfl)]
              obtain ⟨cs, hcs, hcr⟩ := HC8.out
              have hck := CK.below HBY.out
              have hcs1 := own_ck hcs hck
              obtain ⟨i0, hin, hz0, hz1, hz2⟩ := info_parts infoC
              refine wp_append_own X1 _ _ 28 rfl base 73 i0 _ 4 48 Tryz.underlying28 hin hz0 hz1 hz2 rfl (by decide) (.slice la st2.2.length lc) st2.2.length cs rfl hcs1 ⟨kb, 0, none⟩ 1 1 [.int .i64 xv, .int .i64 v, .int .i64 n, .slice ya ys.length yc] rfl rfl ?_ ?_ (by unfold maxLen; omega) (by omega) (by have := HBY.out.size; omega) ?_
              · intro q u hq
                rw [Addr.add_lit, Nat.zero_add, cell_of_row _ _ _ _ _ _ HKB.out, List.getElem?_toArray]; exact hq
              · intro u hu
                simp only [List.mem_cons, List.not_mem_nil, or_false] at hu
                rcases hu with rfl | rfl | rfl | rfl <;> rfl
              intro v' X2 hown2 hgrow2 _
              obtain ⟨g5, cp, rfl⟩ := Slice.own_succ hown2
              have key : ∀ (q : Nat) (c : Array Value) (t : TypeId), t ≠ 73 → w7.heap[q]? = some (.cells c t (0, 0)) → X2.heap[q]? = some (.cells c t (0, 0)) := fun q c t hne e => by
                have e1 := heap_later e HBY.out (Array.getElem?_eq_some_iff.1 e).1
                exact (hgrow2.block q (Array.getElem?_eq_some_iff.1 e1).1 (fun hh => own_apart hcs1 e1 hne _ hh.symm rfl)).trans e1
              have e0 := key _ _ _ (by decide) E0.out
              have e1 := key _ _ _ (by decide) E1.out
              have e2 := key _ _ _ (by decide) E2.out
              have e3 := key _ _ _ (by decide) E3.out
              have ex := key _ _ _ (by decide) HX8.out
              have hbX2 : Below B w X2 := HB7'.out.trans ((HBY.out.mono (by omega)).grown hgrow2 (by have := HBY.out.size; omega) (fun q hq => by have := (hcs1.lt q hq).1; omega))
              have hco2 : COwn X2 base (.slice (some ⟨g5, 0, none⟩) (st2.2.length + 1) cp) (st2.2 ++ [reasonD p st2.2 ⟨xv, v, n, []⟩]) := COwn.appended (c := reasonD p st2.2 ⟨xv, v, n, []⟩) hcs1 hgrow2 (fun j hj => by
                obtain ⟨a1, a2, a3, yw, a5, a6⟩ := hcr j hj
                exact ⟨a1, a2, a3, yw, a5, own_ck a6 hck⟩) (by rw [HYS.out]; exact HYO.out) hown2
              have hkp2 := (H8.out.below HBY.out).grown hcs1 hgrow2
              obtain ⟨cB, hcB⟩ := HBS0.out
              have hB7 := HK8.out _ _ hcB (.inl rfl)
              have hB1 := heap_later hB7 HBY.out (Array.getElem?_eq_some_iff.1 hB7).1
              have hke2 := (HK8.out.below HBY.out).grown hcs1 hgrow2 (own_apart hcs1 hB1 (by decide))
              have hB2 := hke2 _ _ hcB (.inl rfl)
              have hs2 := HS2.out X2 e0 e1 e2 e3 hbX2
              have h10 := (propC_cells hlen8 ex).2.2.2.1
              have f10 := (propC_cells hlen8 ex).2.2.2.2.2 10
              have hs3 : ∀ u, _ := fun u => HS2.out (X2.setCell ⟨x, 10, none⟩ u) ((Below.heap_setCell _ _ _ _ (ne_of_types e0 ex (by decide))).trans e0) ((Below.heap_setCell _ _ _ _ (ne_of_types e1 ex (by decide))).trans e1) ((Below.heap_setCell _ _ _ _ (ne_of_types e2 ex (by decide))).trans e2) ((Below.heap_setCell _ _ _ _ (ne_of_types e3 ex (by decide))).trans e3) (hbX2.setCell (p := ⟨x, 10, none⟩) hB _)
              have HS3 := Lib.hid hs3
              have HEX := Lib.hid ex; have HCO2 := Lib.hid hco2; have HKP2 := Lib.hid hkp2; have HKE2 := Lib.hid hke2; have HB2 := Lib.hid hB2
              clear key hown2 hgrow2 hcs1 hck hcs hcr hco2 hkp2 hke2 hB2 hB1 hB7 hcB hHeld ex e0 e1 e2 e3 hs3
              refine hK.out _ _ (hs2) (fun hHeld => ?_)
              clear hK K
              try simp only [Act.put, List.setIfInBounds_toArray, List.set_cons_zero, List.set_cons_succ]
              refine wpAnyH_take (i := 17) (oi := { dst := some 61, op := Op.nilCheck (Operand.tmp 44), type := 0, pos := "domain.go:268", after := #[{ on := 0, ground := Ground.data }, { on := 0, ground := Ground.phase }, { on := 1, ground := Ground.phase }, { on := 2, ground := Ground.phase }, { on := 3, ground := Ground.phase }, { on := 4, ground := Ground.phase }, { on := 5, ground := Ground.phase }, { on := 6, ground := Ground.phase }, { on := 7, ground := Ground.phase }, { on := 8, ground := Ground.phase }, { on := 9, ground := Ground.phase }, { on := 10, ground := Ground.phase }, { on := 11, ground := Ground.phase }, { on := 12, ground := Ground.phase }, { on := 13, ground := Ground.phase }, { on := 14, ground := Ground.phase }, { on := 15, ground := Ground.phase }, { on := 16, ground := Ground.phase }], guard := none }) (v := ?_) rfl (by kernel_rfl) (by kernel_rfl) (by kernel_rfl) (fun _ _ _ h => h) (Or.inl ⟨by kernel_rfl, ?_⟩) hHeld ?_
              rotate_left
              · intro w hSw
                try dsimp only at hSw
                obtain ⟨hs0, hs1, hs2, hs3, hs4⟩ := hSw
                go_simp
                try with_reducible rfl
              try simp only [Act.put, List.setIfInBounds_toArray, List.set_cons_zero, List.set_cons_succ]
              refine wpAnyH_take (i := 18) (oi := { dst := some 62, op := Op.fieldAddr 80 (Operand.tmp 61) 2, type := 0, pos := "domain.go:268", after := #[{ on := 17, ground := Ground.data }, { on := 0, ground := Ground.phase }, { on := 1, ground := Ground.phase }, { on := 2, ground := Ground.phase }, { on := 3, ground := Ground.phase }, { on := 4, ground := Ground.phase }, { on := 5, ground := Ground.phase }, { on := 6, ground := Ground.phase }, { on := 7, ground := Ground.phase }, { on := 8, ground := Ground.phase }, { on := 9, ground := Ground.phase }, { on := 10, ground := Ground.phase }, { on := 11, ground := Ground.phase }, { on := 12, ground := Ground.phase }, { on := 13, ground := Ground.phase }, { on := 14, ground := Ground.phase }, { on := 15, ground := Ground.phase }, { on := 16, ground := Ground.phase }], guard := none }) (v := ?_) rfl (by kernel_rfl) (by kernel_rfl) (by kernel_rfl) (fun _ _ _ h => h) (Or.inl ⟨by kernel_rfl, ?_⟩) hHeld ?_
              rotate_left
              · intro w hSw
                try dsimp only at hSw
                obtain ⟨hs0, hs1, hs2, hs3, hs4⟩ := hSw
                go_simp
                try with_reducible rfl
              try simp only [Act.put, List.setIfInBounds_toArray, List.set_cons_zero, List.set_cons_succ]
              refine wpAnyH_ready (rs := [19]) (by kernel_rfl) (by simp) ?_
              refine AllReadyH.cons (o := { dst := none, op := Op.store 28 (Operand.tmp 62) (Operand.tmp 60), type := 0, pos := "domain.go:268", after := #[{ on := 18, ground := Ground.data }, { on := 16, ground := Ground.data }, { on := 16, ground := Ground.chain }, { on := 0, ground := Ground.phase }, { on := 1, ground := Ground.phase }, { on := 2, ground := Ground.phase }, { on := 3, ground := Ground.phase }, { on := 4, ground := Ground.phase }, { on := 5, ground := Ground.phase }, { on := 6, ground := Ground.phase }, { on := 7, ground := Ground.phase }, { on := 8, ground := Ground.phase }, { on := 9, ground := Ground.phase }, { on := 10, ground := Ground.phase }, { on := 11, ground := Ground.phase }, { on := 12, ground := Ground.phase }, { on := 13, ground := Ground.phase }, { on := 14, ground := Ground.phase }, { on := 15, ground := Ground.phase }, { on := 16, ground := Ground.phase }], guard := none }) rfl (fun K hK => ?_) AllReadyH.nil
              go_simp
              refine hK.out _ _ (HS3.out _) (fun hHeld => ?_)
              clear hK K
              try simp only [Act.put, List.setIfInBounds_toArray, List.set_cons_zero, List.set_cons_succ]
              refine wpAnyH_done (by kernel_rfl) ?_ _
              dsimp only [onlyN]
              exact ⟨ya, yc, kb, g5, cp, rfl, prop_cuts hlen8 _ HEX.out, (HCO2.out.hole HB2.out (by decide) (by decide)).kt ((KT.set HEX.out (by decide) (by decide) _).hole w4.heap.size), HKP2.out.setCell (.inl rfl) _, HKE2.out.setCell (by show x ≠ w4.heap.size; have := HNE.out; omega) _⟩
        case hq =>
          rintro ya yc kb g5 cp Y ⟨hx8, hc8, h8, hk8⟩
          have hlen8 := HG2.out.f.len
          have xcs := (propC_cells hlen8 hx8).2.2.1 xv hxv8
          have xfr := (propC_cells hlen8 hx8).2.2.2.2.2 (2 + xv)
          have k4y := h8.same _ _ K4.out (two_no (by have := HNE.out; omega) (by have := HNE.out; omega)) (.inr (nT (by decide)))
          have p8 : Y.cell? ⟨V.heap.size, 0, none⟩ = some (.pointer (some ⟨x, 2 + xv, none⟩)) := by rw [cell_of_row _ _ _ _ _ _ k4y]; rfl
          have w1 : x < Y.heap.size := (Array.getElem?_eq_some_iff.1 hx8).1
          have w2 : V.heap.size < Y.heap.size := (Array.getElem?_eq_some_iff.1 k4y).1
          have hu8 : U64 (nget st2.1 xv) := Nat.lt_trans (HG2.out.f.lt xv) (by decide)
          have hbu8 : U64 (bitN v) := U64.bit hv64
          have HX8 := Lib.hid hx8; have HC8 := Lib.hid hc8; have H8 := Lib.hid h8; have HK8 := Lib.hid hk8
          clear hx8 hc8 h8 hk8 k4y xfr
          gi_wp2_with fail
          refine wpIn_region_qbt 6 (by kernel_rfl) (by kernel_rfl) (by rintro ⟨a, w, h⟩; exact h) ?_
          simp only [List.take_succ_cons, List.take_zero, List.drop_succ_cons, List.drop_zero]
          repeat go_big_quiet_step ((exact Gives.quiet (Gives.of_same (one_any v _ hv64))))
          refine wpQuiet_nil ?_
          intro w9 hb9
          have hx9 := heap_later HX8.out hb9 w1
          have c9 := (propC_cells hlen8 hx9).2.2.1 xv hxv8
          have f9 := (propC_cells hlen8 hx9).2.2.2.2.2 (2 + xv)
          have HB9 := Lib.hid hb9; have HX9 := Lib.hid hx9
          clear hb9 hx9 xcs p8
          go_wp2_with fail
          have hps := prop_set hlen8 hxv8 (sDiff (nget st2.1 xv) (bitN v)) HX9.out
          refine ⟨((HK8.out.below HB9.out).setCell (by show x ≠ w4.heap.size; have := HNE.out; omega) _), ⟨⟨(.slice (some ⟨g5, 0, none⟩) (st2.2.length + 1) cp), ?_, ?_⟩, (H8.out.below HB9.out).setCell (.inl rfl) _⟩⟩
          · rw [HNX.out]; exact hps
          · rw [HNX.out]
            exact (HC8.out.kt ((KT.of_ck (CK.below HB9.out)).hole w4.heap.size)).kt ((KT.set HX9.out (by decide) (by decide) _).hole w4.heap.size)
end Go.Proofs.YtdmmegmkdhinjaaGreatDoor

namespace Go.Proofs.YtdmmegmkdhinjaaGreatDoor
open Go Go.RowKit

theorem eq_u64 (x y : Nat) (w : World) : (Op.equalIn 9999 56 (.int .u64 (x : Nat)) (.int .u64 (y : Nat))).run Tryz.prog w = .ok (decide (x = y)) w := by
  rw [show (9999 : Nat) = 9998 + 1 from rfl, eq_int 9998 Tryz.underlying56]
  congr 1
  rw [Bool.eq_iff_iff]
  simp only [beq_iff_eq, decide_eq_true_eq]
  omega
theorem part_u64 (b : List Nat) (i : Nat) (hi : i < b.length) (w : World) : (part 56 (natsV b).toArray (i * 1)).run Tryz.prog w = .ok (.int .u64 (nget b i : Nat)) w :=
  part_int Tryz.underlying56 _ _ _ (by rw [List.getElem?_toArray, Nat.mul_one, natsV_get b i hi]) w
theorem nats_eq (a b : List Nat) (hl : a.length = b.length) : decide (a = b) = (List.range a.length).all fun i => decide (nget a i = nget b i) := by
  rw [Bool.eq_iff_iff]
  simp only [decide_eq_true_eq, List.all_eq_true, List.mem_range]
  constructor
  · rintro rfl i _; rfl
  · intro h
    exact nat_ext hl h
theorem equal_fields (a b : List Nat) (ha : a.length = 8) (hb : b.length = 8) (w : World) : (Op.equalIn 10000 77 (.agg (natsV a).toArray) (.agg (natsV b).toArray)).run Tryz.prog w = .ok (decide (a = b)) w := by
  rw [show (10000 : Nat) = 9999 + 1 from rfl, Op.equalIn]
  simp only [Sem.run_bind, run_underlying Tryz.underlying77, Result.andThen_ok, Tryz.sizeOf56]
  simp only [Std.Legacy.Range.forIn_eq_forIn_range', Std.Legacy.Range.size, Nat.sub_zero, Nat.add_sub_cancel, Nat.div_one]
  rw [nats_eq a b (ha.trans hb.symm), ha, List.range_eq_range']
  have key : ∀ (is : List Nat) (w : World), (∀ i ∈ is, i < 8) → Sem.run Tryz.prog (forIn is ((none, ()) : Option Bool × Unit) fun i __s => do
      let x ← part 56 (natsV a).toArray (i * 1)
      let y ← part 56 (natsV b).toArray (i * 1)
      let r ← Op.equalIn 9999 56 x y
      if (!r) = true then pure (ForInStep.done (some false, ())) else pure (ForInStep.yield (none, ()))) w = .ok (if (is.all fun i => decide (nget a i = nget b i)) = true then (none, ()) else (some false, ())) w := by
    intro is
    induction is with
    | nil => intro w _; simp
    | cons i is ih =>
      intro w h
      have hi := h i (by simp)
      simp only [List.forIn_cons, Sem.run_bind, part_u64 a i (by omega), part_u64 b i (by omega), Result.andThen_ok, eq_u64, List.all_cons]
      by_cases hd : nget a i = nget b i
      case neg => simp [hd]
      case pos =>
        simp only [hd, decide_true, Bool.not_true, Bool.false_eq_true, if_false, Sem.run_pure, Result.andThen_ok, Bool.true_and]
        exact ih w (fun i h' => h i (by simp [h']))
  have := key (List.range' 0 8) w (fun i hi => by simp at hi; omega)
  rw [this]
  cases (List.range' 0 8).all fun i => decide (nget a i = nget b i) <;> simp
theorem run_eql_fields (a b : List Nat) (ha : a.length = 8) (hb : b.length = 8) (w : World) : (binOp .eql 77 (fieldV a) (fieldV b)).run Tryz.prog w = .ok (.bool (decide (a = b))) w := by
  unfold fieldV
  rw [run_eql_struct, equal_fields a b ha hb]; rfl
end Go.Proofs.YtdmmegmkdhinjaaGreatDoor

namespace Go.Proofs.YtdmmegmkdhinjaaGreatDoor
open Go Go.RowKit

/-- As it was, or less is left. -/
def Dec (st st' : Sd) : Prop := st'.1 = st.1 ∨ totalD st'.1 < totalD st.1
theorem Dec.refl (st : Sd) : Dec st st := .inl rfl
theorem Dec.trans {a b c : Sd} (h : Dec a b) (h' : Dec b c) : Dec a c := by
  unfold Dec at *
  rcases h with h | h <;> rcases h' with h' | h'
  · exact .inl (h'.trans h)
  · rw [h] at h'; exact .inr h'
  · rw [← h'] at h; exact .inr h
  · exact .inr (by omega)
theorem Dec.cut {st : Sd} (h : Good st) {p : Dp} {rs : Bool} {n i x v : Nat} (hx : iget (drget p.rules n).vars i = x) (hx8 : x < 8) (hv : v ∈ elems (nget st.1 x)) : Dec st (cutV p rs n i st v) := by
  unfold cutV
  simp only [hx, Int.toNat_natCast]
  split
  · exact Dec.refl _
  · have ht := total_set st.1 x (sDiff (nget st.1 x) (bitN v)) (by rw [h.f.len]; exact hx8)
    have hsz := size_diff hv
    exact .inr (show totalD (st.1.set x _) < totalD st.1 by omega)
theorem Dec.cuts {p : Dp} {rs : Bool} {n i x : Nat} (hx : iget (drget p.rules n).vars i = x) (hx8 : x < 8) : ∀ (vs : List Nat) {st : Sd}, Good st → vs.Nodup → (∀ v ∈ vs, v ∈ elems (nget st.1 x)) → Dec st (vs.foldl (cutV p rs n i) st)
  | [], st, _, _, _ => Dec.refl _
  | v :: vs, st, h, hn, hm => by
    have hnd := List.nodup_cons.1 hn
    have hc := h.cut (p := p) (rs := rs) (n := n) (i := i) hx hx8 (hm v (by simp))
    have hl : x < st.1.length := by rw [h.f.len]; exact hx8
    exact (Dec.cut h hx hx8 (hm v (by simp))).trans (Dec.cuts hx hx8 vs hc hnd.2 (fun u hu => by
      have := mem_elems.1 (hm u (by simp [hu]))
      refine mem_elems.2 ⟨this.1, ?_⟩
      have hne : u ≠ v := fun e => hnd.1 (by rw [← e]; exact hu)
      rw [cutV_bit hx hl hne]
      exact this.2))
theorem Dec.sweep {p : Dp} {rs : Bool} {n i x : Nat} {st : Sd} (h : Good st) (hx : iget (drget p.rules n).vars i = x) (hx8 : x < 8) : Dec st (sweepD p rs n i st) := by
  unfold sweepD
  rw [hx, Int.toNat_natCast]
  exact Dec.cuts hx hx8 _ h (elems_nodup _) (fun _ hu => hu)
theorem places_good {p : Dp} {rs : Bool} {n : Nat} (hv : VarsIn (drget p.rules n)) : ∀ (is : List Nat) {st : Sd}, (∀ i ∈ is, i < (drget p.rules n).vars.length) → Good st → Good (placesD p rs n is st).1 ∧ Dec st (placesD p rs n is st).1
  | [], st, _, h => ⟨h, Dec.refl _⟩
  | i :: is, st, hi, h => by
    obtain ⟨h1, h2⟩ := hv i (hi i (by simp))
    have hx : iget (drget p.rules n).vars i = ((iget (drget p.rules n).vars i).toNat : Int) := by omega
    have hg := h.sweep (p := p) (rs := rs) (n := n) (i := i) hx (by omega)
    have hd := Dec.sweep (p := p) (rs := rs) (n := n) (i := i) h hx (by omega)
    unfold placesD
    simp only
    split
    · exact ⟨hg, hd⟩
    · obtain ⟨h3, h4⟩ := places_good hv is (fun j hj => hi j (by simp [hj])) hg
      exact ⟨h3, hd.trans h4⟩
theorem rules_good {p : Dp} {rs : Bool} (hv : ∀ n, n < p.rules.length → VarsIn (drget p.rules n)) : ∀ (ns : List Nat) {st : Sd}, (∀ n ∈ ns, n < p.rules.length) → Good st → Good (rulesD p rs ns st).1 ∧ Dec st (rulesD p rs ns st).1
  | [], st, _, h => ⟨h, Dec.refl _⟩
  | n :: ns, st, hn, h => by
    obtain ⟨hg, hd⟩ := places_good (rs := rs) (hv n (hn n (by simp))) (List.range (drget p.rules n).vars.length) (fun i hi => List.mem_range.1 hi) h
    unfold rulesD
    simp only
    split
    · obtain ⟨h3, h4⟩ := rules_good hv ns (fun j hj => hn j (by simp [hj])) hg
      exact ⟨h3, hd.trans h4⟩
    · exact ⟨hg, hd⟩
theorem probD_varsIn {p : Dp} (h : probD p = true) (n : Nat) (hn : n < p.rules.length) : VarsIn (drget p.rules n) := ruleD_vars ((probD_parts h).2.2.2.2 n hn) (by have := (probD_parts h).2.1; omega)
/-- A round, and what comes then. -/
theorem rounds_good {p : Dp} {rs : Bool} (h : probD p = true) : ∀ (k : Nat) {st : Sd}, Good st → Good (roundsD p rs k st)
  | 0, _, hg => hg
  | k + 1, st, hg => by
    have hr := (rules_good (rs := rs) (probD_varsIn h) (List.range p.rules.length) (fun n hn => List.mem_range.1 hn) hg).1
    unfold roundsD
    simp only
    split
    · split
      · exact hr
      · exact rounds_good h k hr
    · exact hr
theorem Good.start {f : List Nat} (h : Fok f) : Good (f, []) := ⟨h, fun i hi => absurd hi (Nat.not_lt_zero _), fun i hi => absurd hi (Nat.not_lt_zero _), by have := total_le f h.lt; rw [h.len] at this; show 0 + totalD f ≤ 128; omega⟩
theorem run_good {p : Dp} {rs : Bool} (h : probD p = true) {f : List Nat} (hf : Fok f) : Good (runD p rs f) := by
  unfold runD
  split
  · exact Good.start hf
  · exact rounds_good h _ (Good.start hf)
end Go.Proofs.YtdmmegmkdhinjaaGreatDoor
