/- Package domain: what a relation asks of domains: all different. · Package domain: what a relation asks of domains. · Package domain: what a relation asks of domains, by its kind; what is possible. · Package domain: the domains of all variables. · Package domain: the domains of a rule's variables; what is supported. · Package domain: what is supported. · Package domain: Support: what its loop keeps. -/
import Derived.Test.YtdmmegmkdhinjaaGreatDoorBB
import Derived.Shelf.Strconv.Itoa0
import Derived.Laws.CopyOwn
namespace Go.Proofs.YtdmmegmkdhinjaaGreatDoor
open Go Go.RowKit
attribute [local go_sem] cell_grow u64_sAnd u64_sOr u64_sDiff sDiff_all zeqI zneI sAnd_bit_zero sAnd_bit_zeroN sAnd_bit_nonzero Oper.semAt_some wide_fn wide_depth

theorem memFind_some {a t : Nat} : ∀ {M : List ((Nat × Nat) × Bool)} {i j : Nat} {v : Value}, memFind a t M i = some (j, v) → ∃ x ∈ M, x.1 = (a, t) ∧ v = .bool x.2
  | [], _, _, _, h => by unfold memFind at h; cases h
  | x :: xs, i, j, v, h => by
    unfold memFind at h
    split at h
    · rename_i hc
      cases h
      refine ⟨x, by simp, ?_, rfl⟩
      simp only [Bool.and_eq_true, beq_iff_eq] at hc
      exact Prod.ext (by have := hc.1; omega) (by have := hc.2; omega)
    · obtain ⟨y, hy, h1, h2⟩ := memFind_some h
      exact ⟨y, by simp [hy], h1, h2⟩
theorem memFind_none {a t : Nat} : ∀ {M : List ((Nat × Nat) × Bool)} {i : Nat}, memFind a t M i = none ↔ ∀ x ∈ M, x.1 ≠ (a, t)
  | [], i => by unfold memFind; simp
  | x :: xs, i => by
    unfold memFind
    have ih := memFind_none (a := a) (t := t) (M := xs) (i := i + 1)
    split
    · rename_i hc
      simp only [Bool.and_eq_true, beq_iff_eq] at hc
      constructor
      · intro h; cases h
      · intro h
        exact absurd (Prod.ext (by have := hc.1; omega) (by have := hc.2; omega)) (h x (by simp))
    · rename_i hc
      rw [ih]
      constructor
      · intro h y hy
        rcases List.mem_cons.1 hy with rfl | hy
        · intro he
          apply hc
          rw [he]
          simp
        · exact h y hy
      · intro h y hy
        exact h y (by simp [hy])
theorem Frm.of_below {mb : Nat} {w w' : World} (h : Below w.heap.size w w') : Frm mb w w' := ⟨h.os, h.tape, h.output, h.size, fun k hk _ => h.block k hk⟩
theorem Frm.next {mb : Nat} {a b c : World} (h : Frm mb a b) (h' : Frm mb b c) : Frm mb a c := ⟨h'.os.trans h.os, h'.tape.trans h.tape, h'.output.trans h.output, Nat.le_trans h.size h'.size, fun k hk hn => (h'.same k (Nat.lt_of_lt_of_le hk h.size) hn).trans (h.same k hk hn)⟩
theorem Frm.setNew {mb : Nat} {w w' : World} (h : Frm mb w w') {p : Addr} (hp : w.heap.size ≤ p.block) (v : Value) : Frm mb w (w'.setCell p v) :=
  ⟨h.os, h.tape, h.output, by simpa [World.setCell] using h.size, fun k hk hn => (Below.heap_setCell _ _ _ _ (by omega)).trans (h.same k hk hn)⟩
theorem Frm.put {mb : Nat} {w w' : World} (h : Frm mb w w') (o : Obj) : Frm mb w (w'.putObj mb o) :=
  ⟨h.os, h.tape, h.output, by simpa using h.size, fun k hk hn => (World.putObj_heap_other (fun e => hn (by first | exact e | exact e.symm))).trans (h.same k hk hn)⟩
/-- Blocks that lay when a loop over elements began are as they were, but for the iterator's set and one map. -/
structure Frm2 (Bs mb : Nat) (W0 W : World) : Prop where
  os : W.os = W0.os
  tape : W.tape = W0.tape
  output : W.output = W0.output
  size : W0.heap.size ≤ W.heap.size
  same : ∀ k, k < W0.heap.size → k ≠ Bs → k ≠ mb → W.heap[k]? = W0.heap[k]?
theorem Frm2.refl (Bs mb : Nat) (W : World) : Frm2 Bs mb W W := ⟨rfl, rfl, rfl, Nat.le_refl _, fun _ _ _ _ => rfl⟩
theorem Frm2.touched {Bs mb : Nat} {W0 W W' : World} (h : Frm2 Bs mb W0 W) (ht : Touched Bs W0.heap.size W W') : Frm2 Bs mb W0 W' :=
  ⟨ht.os.trans h.os, ht.tape.trans h.tape, ht.output.trans h.output, Nat.le_trans h.size ht.size, fun k hk hne hnm => by
    have h1 := h.same k hk hne hnm
    rw [Array.getElem?_eq_getElem hk] at h1 ⊢
    exact ht.same k _ h1 hne (.inl hk)⟩
theorem Frm2.step {Bs mb : Nat} {W0 V V' : World} (h : Frm2 Bs mb W0 V) (h' : Frm mb V V') : Frm2 Bs mb W0 V' :=
  ⟨h'.os.trans h.os, h'.tape.trans h.tape, h'.output.trans h.output, Nat.le_trans h.size h'.size, fun k hk hne hnm => (h'.same k (Nat.lt_of_lt_of_le hk h.size) hnm).trans (h.same k hk hne hnm)⟩
theorem Frm2.to {Bs mb : Nat} {w W0 V : World} (h0 : Frm mb w W0) (h : Frm2 Bs mb W0 V) (hB : w.heap.size ≤ Bs) : Frm mb w V :=
  ⟨h.os.trans h0.os, h.tape.trans h0.tape, h.output.trans h0.output, Nat.le_trans h0.size h.size, fun k hk hn => (h.same k (Nat.lt_of_lt_of_le hk h0.size) (by omega) hn).trans (h0.same k hk hn)⟩
theorem Frm2.heap {Bs mb : Nat} {W0 V : World} {k : Nat} {o : Obj} (h : Frm2 Bs mb W0 V) (hk : W0.heap[k]? = some o) (h1 : k ≠ Bs) (h2 : k ≠ mb) : V.heap[k]? = some o := (h.same k (Array.getElem?_eq_some_iff.1 hk).1 h1 h2).trans hk
theorem Frm.heap {mb : Nat} {W0 V : World} {k : Nat} {o : Obj} (h : Frm mb W0 V) (hk : W0.heap[k]? = some o) (h2 : k ≠ mb) : V.heap[k]? = some o := (h.same k (Array.getElem?_eq_some_iff.1 hk).1 h2).trans hk
theorem Keep.frm {Bs L mb : Nat} {W W' : World} (h : Frm mb W W') (h1 : Bs ≠ mb) (h2 : mb < L) : Keep Bs L W W' := fun k o hk hc => h.heap hk (by rcases hc with hc | ⟨hc, _⟩ <;> omega)
theorem MemAt.below {w w' : World} {mb : Nat} {M : List ((Nat × Nat) × Bool)} (h : MemAt w mb M) (hb : Below w.heap.size w w') : MemAt w' mb M := h.same fun _ ho => (hb.block mb (Array.getElem?_eq_some_iff.1 ho).1).trans ho
theorem MemAt.touched {Bs L : Nat} {w w' : World} {mb : Nat} {M : List ((Nat × Nat) × Bool)} (h : MemAt w mb M) (ht : Touched Bs L w w') (h1 : mb ≠ Bs) (h2 : mb < L) : MemAt w' mb M := h.same fun o ho => ht.same mb o ho h1 (.inl h2)
theorem MemAt.setCell {w : World} {mb : Nat} {M : List ((Nat × Nat) × Bool)} (h : MemAt w mb M) {p : Addr} (hp : p.block ≠ mb) (v : Value) : MemAt (w.setCell p v) mb M := h.same fun _ ho => (Below.heap_setCell _ _ _ _ (Ne.symm hp)).trans ho
/-- A post that asks for a normal end. -/
def onlyN (Q : Exit → Act → World → Prop) (e : Exit) (a : Act) (w : World) : Prop := match e with
  | .normal => Q .normal a w
  | _ => False
theorem wp_region_held_n {P : Program} {Q : Exit → Act → World → Prop} {ops : Array Oper} {S : World → Prop} {id : Nat} {a : Act} {w : World} (hm : P.follows .mixedOrders = true) (hS : S w.drew)
    (h : S w.drew → wpAnyH P .any ops (onlyN Q) S ops.size (Array.replicate ops.size false) a w.drew) : (Code.region id ops true).wp P Q a w :=
  Code.wp_mono (fun e a w h => by cases e <;> first | exact h | exact h.elim) (wp_region_held_drew hm hS h)
theorem Frm.touched2 {Bs L mb : Nat} {w W W' : World} (h : Frm mb w W) (ht : Touched Bs L W W') (hB : w.heap.size ≤ Bs) (hL : w.heap.size ≤ L) : Frm mb w W' :=
  ⟨ht.os.trans h.os, ht.tape.trans h.tape, ht.output.trans h.output, Nat.le_trans h.size ht.size, fun k hk hne => by
    have h1 := h.same k hk hne
    rw [Array.getElem?_eq_getElem hk] at h1 ⊢
    exact ht.same k _ h1 (by omega) (.inl (by omega))⟩
theorem MemAt.putObj {w : World} {mb : Nat} {M : List ((Nat × Nat) × Bool)} (h : MemAt w mb M) {D : Nat} (hD : D ≠ mb) (ob : Obj) : MemAt (w.putObj D ob) mb M := h.same fun o ho => (World.putObj_heap_other (by omega)).trans ho
theorem Frm.putNew {mb : Nat} {w w' : World} (h : Frm mb w w') {D : Nat} (hD : w.heap.size ≤ D) (ob : Obj) : Frm mb w (w'.putObj D ob) :=
  ⟨h.os, h.tape, h.output, by simpa using h.size, fun k hk hn => (World.putObj_heap_other (by omega)).trans (h.same k hk hn)⟩
theorem memFind_skip {a t : Nat} {M N : List ((Nat × Nat) × Bool)} (h : memFind a t M 0 = none) (hN : ∀ x ∈ N, a + 1 ≤ x.1.1) : memFind a t (M ++ N) 0 = none := by
  rw [memFind_none] at h ⊢
  intro x hx
  rcases List.mem_append.1 hx with hx | hx
  · exact h x hx
  · intro he
    have := hN x hx
    rw [he] at this
    exact absurd this (by simp)
theorem Frm.cell {mb : Nat} {w w' : World} (h : Frm mb w w') {b o : Nat} (hb : b < w.heap.size) (hn : b ≠ mb) : w'.cell? ⟨b, o, none⟩ = w.cell? ⟨b, o, none⟩ := by
  unfold World.cell?
  rw [show (⟨b, o, none⟩ : Addr).block = b from rfl, h.same b hb hn]
def fromF (qd qm qf : Nat) : Value := .func (.func 160) #[] #[.pointer (some ⟨qd, 0, none⟩), .pointer (some ⟨qm, 0, none⟩), .pointer (some ⟨qf, 0, none⟩)]
/-- What the choice of different values needs of memory. -/
structure FromAt (ds : List Nat) (dv : Value) (qd qm qf mb B : Nat) (w : World) : Prop where
  doms : Us w B dv ds
  dd : w.heap[qd]? = some (.cells #[dv] 22 (0, 0))
  mm : w.heap[qm]? = some (.cells #[.map (some mb)] 187 (0, 0))
  ff : w.heap[qf]? = some (.cells #[fromF qd qm qf] 188 (0, 0))
  tab : Tab w
  pos : 0 < B
  le : B ≤ mb
theorem FromAt.ne {ds : List Nat} {dv : Value} {qd qm qf mb B : Nat} {w : World} {M : List ((Nat × Nat) × Bool)} (h : FromAt ds dv qd qm qf mb B w) (hm : MemAt w mb M) : qd ≠ mb ∧ qm ≠ mb ∧ qf ≠ mb := by
  obtain ⟨es, c, hm, _⟩ := hm
  refine ⟨fun e => ?_, fun e => ?_, fun e => ?_⟩
  · have := h.dd; rw [e, hm] at this; cases this
  · have := h.mm; rw [e, hm] at this; cases this
  · have := h.ff; rw [e, hm] at this; cases this
theorem FromAt.keep {ds : List Nat} {dv : Value} {qd qm qf mb B : Nat} {w w' : World} {M : List ((Nat × Nat) × Bool)} (h : FromAt ds dv qd qm qf mb B w) (hm : MemAt w mb M) (hk : ∀ k o, w.heap[k]? = some o → k ≠ mb → w'.heap[k]? = some o) (hb : Below B w w') : FromAt ds dv qd qm qf mb B w' := by
  obtain ⟨es, c, hm, _⟩ := hm
  have key : ∀ (q : Nat) (c' : Array Value) (t : TypeId), w.heap[q]? = some (.cells c' t (0, 0)) → w'.heap[q]? = some (.cells c' t (0, 0)) := fun q c' t e => hk q _ e (fun hh => by subst hh; rw [hm] at e; cases e)
  exact ⟨h.doms.below hb (Nat.le_refl _), key _ _ _ h.dd, key _ _ _ h.mm, key _ _ _ h.ff, h.tab.below hb h.pos, h.pos, h.le⟩
theorem Frm.toBelow {mb B : Nat} {w w' : World} (h : Frm mb w w') (hB : B ≤ mb) (hs : B ≤ w.heap.size) : Below B w w' := ⟨h.os, h.tape, h.output, h.size, fun k hk => h.same k (by omega) (by omega)⟩
def okM (ds : List Nat) (x : (Nat × Nat) × Bool) : Prop := x.2 = diffD (ds.drop x.1.1) x.1.2
def fromAOps : Array Oper := #[
  { dst := some 22, op := Op.load 22 (Operand.tmp 1), type := 22, pos := "domain.go:111", after := #[], guard := none },
  { dst := some 23, op := Op.fieldAddr 190 (Operand.tmp 4) 0, type := 0, pos := "domain.go:111", after := #[], guard := none },
  { dst := some 24, op := Op.load 3 (Operand.tmp 23), type := 3, pos := "domain.go:111", after := #[{ on := 1, ground := Ground.data }], guard := none },
  { dst := some 25, op := Op.indexAddr 22 (Operand.tmp 22) (Operand.tmp 24), type := 0, pos := "domain.go:111", after := #[{ on := 0, ground := Ground.data }, { on := 2, ground := Ground.data }], guard := none },
  { dst := some 26, op := Op.load 56 (Operand.tmp 25), type := 56, pos := "domain.go:111", after := #[{ on := 3, ground := Ground.data }], guard := none },
  { dst := some 27, op := Op.fieldAddr 190 (Operand.tmp 4) 1, type := 0, pos := "domain.go:111", after := #[], guard := none },
  { dst := some 28, op := Op.load 56 (Operand.tmp 27), type := 56, pos := "domain.go:111", after := #[{ on := 5, ground := Ground.data }], guard := none },
  { dst := some 29, op := Op.binOp BinOp.andNot 56 (Operand.tmp 26) (Operand.tmp 28) 56, type := 56, pos := "domain.go:111", after := #[{ on := 4, ground := Ground.data }, { on := 6, ground := Ground.data }], guard := none },
  { dst := some 30, op := Op.call { callee := Callee.value (Operand.func 70), args := #[Operand.tmp 29], argTypes := #[56] }, type := 107, pos := "domain.go:111", after := #[{ on := 7, ground := Ground.data }], guard := none }]
def fromBOps : Array Oper := #[
  { dst := some 32, op := Op.load 188 (Operand.tmp 3), type := 188, pos := "domain.go:112", after := #[], guard := none },
  { dst := some 33, op := Op.fieldAddr 190 (Operand.tmp 4) 0, type := 0, pos := "domain.go:112", after := #[], guard := none },
  { dst := some 34, op := Op.load 3 (Operand.tmp 33), type := 3, pos := "domain.go:112", after := #[{ on := 1, ground := Ground.data }], guard := none },
  { dst := some 35, op := Op.binOp BinOp.add 3 (Operand.tmp 34) (Operand.const (Value.int IntKind.i64 1)) 3, type := 3, pos := "domain.go:112", after := #[{ on := 2, ground := Ground.data }], guard := none },
  { dst := some 36, op := Op.fieldAddr 190 (Operand.tmp 4) 1, type := 0, pos := "domain.go:112", after := #[], guard := none },
  { dst := some 37, op := Op.load 56 (Operand.tmp 36), type := 56, pos := "domain.go:112", after := #[{ on := 4, ground := Ground.data }], guard := none },
  { dst := some 38, op := Op.move (Operand.tmp 8), type := 3, pos := "domain.go:112", after := #[], guard := none },
  { dst := some 39, op := Op.call { callee := Callee.value (Operand.func 71), args := #[Operand.tmp 38], argTypes := #[3] }, type := 56, pos := "domain.go:112", after := #[{ on := 6, ground := Ground.data }], guard := none },
  { dst := some 40, op := Op.binOp BinOp.or 56 (Operand.tmp 37) (Operand.tmp 39) 56, type := 56, pos := "domain.go:112", after := #[{ on := 5, ground := Ground.data }, { on := 7, ground := Ground.data }], guard := none },
  { dst := some 41, op := Op.build 190 #[(0, Operand.tmp 35), (1, Operand.tmp 40)], type := 190, pos := "domain.go:112", after := #[{ on := 3, ground := Ground.data }, { on := 8, ground := Ground.data }], guard := none },
  { dst := some 42, op := Op.call { callee := Callee.value (Operand.tmp 32), args := #[Operand.tmp 41], argTypes := #[190] }, type := 4, pos := "domain.go:112", after := #[{ on := 0, ground := Ground.data }, { on := 9, ground := Ground.data }, { on := 7, ground := Ground.chain }], guard := none }]
set_option maxRecDepth 100000 in
set_option maxHeartbeats 4000000 in
theorem from_any (ds : List Nat) (hds : ∀ i, i < ds.length → nget ds i < 65536) (h4 : ds.length ≤ 4) (dv : Value) (qd qm qf mb B : Nat) : ∀ (n a t : Nat) (M : List ((Nat × Nat) × Bool)) (w : World), a + n = ds.length → t < 65536 → FromAt ds dv qd qm qf mb B w → MemAt w mb M → (∀ x ∈ M, okM ds x) →
    Calls Tryz.prog 160 #[spotV a t, .pointer (some ⟨qd, 0, none⟩), .pointer (some ⟨qm, 0, none⟩), .pointer (some ⟨qf, 0, none⟩)] w fun e w' =>
      e = .returned (.bool (diffD (ds.drop a) t)) ∧ (∃ N, MemAt w' mb (M ++ N) ∧ ∀ x ∈ N, a ≤ x.1.1 ∧ okM ds x) ∧ Frm mb w w' := by
  intro n
  induction n with
  | zero =>
    intro a t M w ha ht hf hm hM
    obtain ⟨da, dc, rfl⟩ := hf.doms.slice
    have hb2 := Below.new2 w (.cells #[.int .i64 (a : Nat), .int .u64 (t : Nat)] 190) (.cells #[.bool false] 4)
    have hk2 := heap_new2 w (.cells #[.int .i64 (a : Nat), .int .u64 (t : Nat)] 190) (.cells #[.bool false] 4)
    have zd := (Array.getElem?_eq_some_iff.1 hf.dd).1
    have q0 : ((w.alloc (.cells #[.int .i64 (a : Nat), .int .u64 (t : Nat)] 190)).alloc (.cells #[.bool false] 4)).cell? ⟨qd, 0, none⟩ = some (.slice da ds.length dc) := by rw [cell_of_row _ _ _ _ _ _ (heap_later hf.dd hb2 zd)]; rfl
    have heq : ((a : Int) == (ds.length : Int)) = true := by rw [beq_iff_eq]; omega
    have HR : Hid (diffD (ds.drop a) t = true) := Lib.hid (by rw [List.drop_eq_nil_of_le (by omega)]; rfl)
    have HM := Lib.hid hm; have HB2 := Lib.hid hb2; have HK2 := Lib.hid hk2
    have ce := cell_of_row _ _ 0 _ _ _ hk2.2
    clear hf hm hM hb2 hk2 ha
    unfold spotV
    refine callsIn_wide.1 (callsIn_of_wp_marks (n := 0) Tryz.func160 rfl trivial (wpIn_wide.2 ?_) rfl)
    simp only [Tryz.ntmps160, List.size_toArray, List.length_cons, List.length_nil, Nat.reduceAdd, Nat.reduceSub, Array.replicate_succ, Array.replicate_zero, List.push_toArray, List.append_toArray, List.nil_append, List.cons_append]
    go_wp2
    refine bodyM_ret0 (results_cell1 rfl rfl (loadVar_one Tryz.underlying4 rfl (by rw [cell_of_row _ _ _ _ _ _ (heap_new2 w _ _).2]; rfl))) rfl ⟨(by rw [HR.out] <;> rfl), ⟨[], ?_, fun x hx => by cases hx⟩, Frm.of_below (Below.new2 _ _ _)⟩
    rw [List.append_nil]
    exact HM.out.below (Below.new2 _ _ _)
  | succ n ih =>
    intro a t M w ha ht hf hm hM
    have hal : a < ds.length := by omega
    have hsp : ds.drop a = nget ds a :: ds.drop (a + 1) := by
      rw [List.drop_eq_getElem_cons hal]
      unfold nget; rw [List.getElem?_eq_getElem hal]; rfl
    obtain ⟨_, da, dc, hdv, hd1, hd2, hd3⟩ := hf.doms
    obtain ⟨db, doff, rfl, hdb, hdcell⟩ := hd3 (by omega)
    subst hdv
    have x0 : w.cell? ⟨db, doff + a, none⟩ = some (.int .u64 (nget ds a : Nat)) := hdcell a (by omega)
    have hmbw := hm.lt
    have hBw : B ≤ w.heap.size := by have := hf.le; omega
    have hBm := hf.le
    obtain ⟨hqd, hqm, hqf⟩ := hf.ne hm
    have hB0 := hf.pos
    have hne : ((a : Int) == (ds.length : Int)) = false := by rw [beq_eq_false_iff_ne]; omega
    have HF := Lib.hid hf; have HM := Lib.hid hm; have HMV := Lib.hid hM; have HIH := Lib.hid ih; have HSP := Lib.hid hsp; have HDS := Lib.hid hds
    clear hf hm hM hd3 hdcell ih hsp hds
    unfold spotV
    refine callsIn_wide.1 (callsIn_of_wp_marks (n := 0) Tryz.func160 rfl trivial (wpIn_wide.2 ?_) rfl)
    simp only [Tryz.ntmps160, List.size_toArray, List.length_cons, List.length_nil, Nat.reduceAdd, Nat.reduceSub, Array.replicate_succ, Array.replicate_zero, List.push_toArray, List.append_toArray, List.nil_append, List.cons_append]
    go_upto_region 1 with fail
    refine abs_wp (fun W => W.heap[w.heap.size]? = some (.cells #[.int .i64 (a : Nat), .int .u64 (t : Nat)] 190 (0, 0)) ∧ W.heap[w.heap.size + 1]? = some (.cells #[.bool false] 4 (0, 0)) ∧ Below w.heap.size w W) ⟨(heap_new2 w _ _).1, (heap_new2 w _ _).2, Below.new2 w _ _⟩ ?_
    rintro W ⟨k0, k1, hb⟩
    have zW : w.heap.size + 1 < W.heap.size := (Array.getElem?_eq_some_iff.1 k1).1
    have hfW := HF.out.keep HM.out (fun k o hk _ => (hb.block k (Array.getElem?_eq_some_iff.1 hk).1).trans hk) (hb.mono hBw)
    have hmW := HM.out.below hb
    have y0 : W.cell? ⟨db, doff + a, none⟩ = some (.int .u64 (nget ds a : Nat)) := (hb.cell (p := ⟨db, doff + a, none⟩) (by show db < w.heap.size; omega)).trans x0
    have q0 : W.cell? ⟨qd, 0, none⟩ = some (.slice (some ⟨db, doff, none⟩) ds.length dc) := by rw [cell_of_row _ _ _ _ _ _ hfW.dd]; rfl
    have q1 : W.cell? ⟨qm, 0, none⟩ = some (.map (some mb)) := by rw [cell_of_row _ _ _ _ _ _ hfW.mm]; rfl
    have s0 : W.cell? ⟨w.heap.size, 0, none⟩ = some (.int .i64 (a : Nat)) := by rw [cell_of_row _ _ _ _ _ _ k0]; rfl
    have s1 : W.cell? ⟨w.heap.size, 1, none⟩ = some (.int .u64 (t : Nat)) := by rw [cell_of_row _ _ _ _ _ _ k0]; rfl
    have ce : W.cell? ⟨w.heap.size + 1, 0, none⟩ = some (.bool false) := by rw [cell_of_row _ _ _ _ _ _ k1]; rfl
    have fe : W.frozen? ⟨w.heap.size + 1, 0, none⟩ = false := by simp [World.frozen?, k1]
    have K0 := Lib.hid k0; have K1 := Lib.hid k1; have HB := Lib.hid hb; have HFW := Lib.hid hfW; have HMW := Lib.hid hmW
    clear k0 k1 hb hfW hmW x0
    cases hmf : memFind a t M 0 with
    | some jv =>
      obtain ⟨j, v⟩ := jv
      obtain ⟨x, hx, hx1, rfl⟩ := memFind_some hmf
      have hlk := run_memLook HMW.out a t hmf
      have hok := HMV.out x hx
      unfold okM at hok
      rw [hx1] at hok
      have HR : Hid (diffD (ds.drop a) t = x.2) := Lib.hid hok.symm
      unfold spotV at hlk
      clear hmf hx hx1 hok
      obtain ⟨bx, hbx⟩ : ∃ bx, bx = x.2 := ⟨_, rfl⟩
      rw [← hbx] at hlk HR
      clear hbx
      go_wp2
      refine bodyM_ret0 (results_cell1 rfl rfl (loadVar_one Tryz.underlying4 rfl (World.cell?_setCell_same _ _ _ ce))) rfl ⟨(by rw [HR.out] <;> rfl), ⟨[], ?_, fun x hx => by cases hx⟩, (Frm.of_below HB.out).setNew (by show w.heap.size ≤ w.heap.size + 1; omega) _⟩
      rw [List.append_nil]
      exact HMW.out.setCell (by show w.heap.size + 1 ≠ mb; omega) _
    | none =>
      have hlk := run_memMiss HMW.out a t hmf
      have HMF := Lib.hid hmf
      unfold spotV at hlk
      have hda := HDS.out a hal
      obtain ⟨m, hm⟩ : ∃ m, m = sDiff (nget ds a) t := ⟨_, rfl⟩
      have hm16 : m < 65536 := by rw [hm]; exact Nat.xor_lt_two_pow (n := 16) hda (Nat.lt_of_le_of_lt Nat.and_le_left hda)
      have htu : U64 t := Nat.lt_trans ht (by decide)
      have hdu : U64 (nget ds a) := Nat.lt_trans hda (by decide)
      have HMM := Lib.hid hm
      clear hmf hm
      go_wp2_with fail
      refine wp_region_held_n (S := fun V => V.cell? ⟨qd, 0, none⟩ = some (.slice (some ⟨db, doff, none⟩) ds.length dc) ∧ V.cell? ⟨w.heap.size, 0, none⟩ = some (.int .i64 (a : Nat)) ∧ V.cell? ⟨w.heap.size, 1, none⟩ = some (.int .u64 (t : Nat)) ∧ V.cell? ⟨db, doff + a, none⟩ = some (.int .u64 (nget ds a : Nat))) (by kernel_rfl) ⟨q0, s0, s1, y0⟩ (fun hHeld => ?_)
      change wpAnyH _ _ fromAOps _ _ _ _ _ _
      refine abs_anyHS (fun V => Below W.heap.size W V) (Below.drewn (Below.refl _ _)) hHeld ?_
      clear hHeld
      rintro V hbV hHeld
      have HBV := Lib.hid hbV
      have hsV := hbV.size
      clear hbV
      refine wpAnyH_take (i := 0) (oi := { dst := some 22, op := Op.load 22 (Operand.tmp 1), type := 22, pos := "domain.go:111", after := #[], guard := none }) (v := ?_) rfl (by kernel_rfl) (by kernel_rfl) (by kernel_rfl) (fun _ _ _ h => h) (Or.inl ⟨by kernel_rfl, ?_⟩) hHeld ?_
      rotate_left
      · intro w hSw
        try dsimp only at hSw
        obtain ⟨hs0, hs1, hs2, hs3⟩ := hSw
        go_simp
        try with_reducible rfl
      try simp only [Act.put, List.setIfInBounds_toArray, List.set_cons_zero, List.set_cons_succ]
      refine wpAnyH_take (i := 1) (oi := { dst := some 23, op := Op.fieldAddr 190 (Operand.tmp 4) 0, type := 0, pos := "domain.go:111", after := #[], guard := none }) (v := ?_) rfl (by kernel_rfl) (by kernel_rfl) (by kernel_rfl) (fun _ _ _ h => h) (Or.inl ⟨by kernel_rfl, ?_⟩) hHeld ?_
      rotate_left
      · intro w hSw
        try dsimp only at hSw
        obtain ⟨hs0, hs1, hs2, hs3⟩ := hSw
        go_simp
        try with_reducible rfl
      try simp only [Act.put, List.setIfInBounds_toArray, List.set_cons_zero, List.set_cons_succ]
      refine wpAnyH_take (i := 2) (oi := { dst := some 24, op := Op.load 3 (Operand.tmp 23), type := 3, pos := "domain.go:111", after := #[{ on := 1, ground := Ground.data }], guard := none }) (v := ?_) rfl (by kernel_rfl) (by kernel_rfl) (by kernel_rfl) (fun _ _ _ h => h) (Or.inl ⟨by kernel_rfl, ?_⟩) hHeld ?_
      rotate_left
      · intro w hSw
        try dsimp only at hSw
        obtain ⟨hs0, hs1, hs2, hs3⟩ := hSw
        go_simp
        try with_reducible rfl
      try simp only [Act.put, List.setIfInBounds_toArray, List.set_cons_zero, List.set_cons_succ]
      refine wpAnyH_take (i := 3) (oi := { dst := some 25, op := Op.indexAddr 22 (Operand.tmp 22) (Operand.tmp 24), type := 0, pos := "domain.go:111", after := #[{ on := 0, ground := Ground.data }, { on := 2, ground := Ground.data }], guard := none }) (v := ?_) rfl (by kernel_rfl) (by kernel_rfl) (by kernel_rfl) (fun _ _ _ h => h) (Or.inl ⟨by kernel_rfl, ?_⟩) hHeld ?_
      rotate_left
      · intro w hSw
        try dsimp only at hSw
        obtain ⟨hs0, hs1, hs2, hs3⟩ := hSw
        go_simp
        try with_reducible rfl
      try simp only [Act.put, List.setIfInBounds_toArray, List.set_cons_zero, List.set_cons_succ]
      refine wpAnyH_take (i := 4) (oi := { dst := some 26, op := Op.load 56 (Operand.tmp 25), type := 56, pos := "domain.go:111", after := #[{ on := 3, ground := Ground.data }], guard := none }) (v := ?_) rfl (by kernel_rfl) (by kernel_rfl) (by kernel_rfl) (fun _ _ _ h => h) (Or.inl ⟨by kernel_rfl, ?_⟩) hHeld ?_
      rotate_left
      · intro w hSw
        try dsimp only at hSw
        obtain ⟨hs0, hs1, hs2, hs3⟩ := hSw
        go_simp
        try with_reducible rfl
      try simp only [Act.put, List.setIfInBounds_toArray, List.set_cons_zero, List.set_cons_succ]
      refine wpAnyH_take (i := 5) (oi := { dst := some 27, op := Op.fieldAddr 190 (Operand.tmp 4) 1, type := 0, pos := "domain.go:111", after := #[], guard := none }) (v := ?_) rfl (by kernel_rfl) (by kernel_rfl) (by kernel_rfl) (fun _ _ _ h => h) (Or.inl ⟨by kernel_rfl, ?_⟩) hHeld ?_
      rotate_left
      · intro w hSw
        try dsimp only at hSw
        obtain ⟨hs0, hs1, hs2, hs3⟩ := hSw
        go_simp
        try with_reducible rfl
      try simp only [Act.put, List.setIfInBounds_toArray, List.set_cons_zero, List.set_cons_succ]
      refine wpAnyH_take (i := 6) (oi := { dst := some 28, op := Op.load 56 (Operand.tmp 27), type := 56, pos := "domain.go:111", after := #[{ on := 5, ground := Ground.data }], guard := none }) (v := ?_) rfl (by kernel_rfl) (by kernel_rfl) (by kernel_rfl) (fun _ _ _ h => h) (Or.inl ⟨by kernel_rfl, ?_⟩) hHeld ?_
      rotate_left
      · intro w hSw
        try dsimp only at hSw
        obtain ⟨hs0, hs1, hs2, hs3⟩ := hSw
        go_simp
        try with_reducible rfl
      try simp only [Act.put, List.setIfInBounds_toArray, List.set_cons_zero, List.set_cons_succ]
      refine wpAnyH_take (i := 7) (oi := { dst := some 29, op := Op.binOp BinOp.andNot 56 (Operand.tmp 26) (Operand.tmp 28) 56, type := 56, pos := "domain.go:111", after := #[{ on := 4, ground := Ground.data }, { on := 6, ground := Ground.data }], guard := none }) (v := ?_) rfl (by kernel_rfl) (by kernel_rfl) (by kernel_rfl) (fun _ _ _ h => h) (Or.inl ⟨by kernel_rfl, ?_⟩) hHeld ?_
      rotate_left
      · intro w hSw
        try dsimp only at hSw
        obtain ⟨hs0, hs1, hs2, hs3⟩ := hSw
        go_simp
        try with_reducible rfl
      try simp only [Act.put, List.setIfInBounds_toArray, List.set_cons_zero, List.set_cons_succ]
      rw [← HMM.out]
      refine wpAnyH_ready (rs := [8]) (by kernel_rfl) (by simp) ?_
      refine AllReadyH.cons (o := { dst := some 30, op := Op.call { callee := Callee.value (Operand.func 70), args := #[Operand.tmp 29], argTypes := #[56] }, type := 107, pos := "domain.go:111", after := #[{ on := 7, ground := Ground.data }], guard := none }) rfl (fun K hK => ?_) AllReadyH.nil
      go_simp
      refine (values_any m V).mono ?_
      rintro e w5 ⟨rfl, hw5⟩
      have kB : w5.heap[V.heap.size]? = some (.cells #[.int .u64 ((m : Nat) : Int)] 56 (0, 0)) := by rw [← hw5]; exact heap_new0 _ _
      have hb5 : Below V.heap.size V w5 := by rw [← hw5]; exact Below.new1 _ _
      have hs5 : V.heap.size + 1 = w5.heap.size := by rw [← hw5]; simp
      clear hw5
      go_wp2_with fail
      refine hK.out _ _ (⟨(hb5.cell (p := ⟨qd, 0, none⟩) (by have := (Array.getElem?_eq_some_iff.1 HFW.out.dd).1; show qd < V.heap.size; omega)).trans hHeld.1, (hb5.cell (p := ⟨w.heap.size, 0, none⟩) (by show w.heap.size < V.heap.size; omega)).trans hHeld.2.1, (hb5.cell (p := ⟨w.heap.size, 1, none⟩) (by show w.heap.size < V.heap.size; omega)).trans hHeld.2.2.1, (hb5.cell (p := ⟨db, doff + a, none⟩) (by show db < V.heap.size; omega)).trans hHeld.2.2.2⟩) (fun hHeld => ?_)
      clear hK K
      try simp only [Act.put, List.setIfInBounds_toArray, List.set_cons_zero, List.set_cons_succ]
      refine wpAnyH_done (by kernel_rfl) ?_ _
      clear hHeld
      dsimp only [onlyN]
      have h05 : Frm mb w w5 := (Frm.of_below HB.out).next ((Frm.of_below HBV.out).next (Frm.of_below hb5))
      have hfr0 : MemAt w5 mb M := (HMW.out.below HBV.out).below hb5
      have k05 := heap_later (heap_later K0.out HBV.out (by omega)) hb5 (by omega)
      have k15 := heap_later (heap_later K1.out HBV.out (by omega)) hb5 (by omega)
      have K05 := Lib.hid k05; have K15 := Lib.hid k15; have KB := Lib.hid kB; have H05 := Lib.hid h05; have HM5 := Lib.hid hfr0
      have hT5 : Tab w5 := HF.out.tab.below (h05.toBelow hBm hBw) hB0
      have HT5 := Lib.hid hT5
      clear k05 k15 kB h05 hfr0 hb5 hT5 y0 q0 q1 s0 s1 ce fe hlk K0 K1 HB HMW HFW HBV
      go_wp2_with fail
      refine wpIn_wide.1 (rangeElems (n := 0) V.heap.size m rfl (Nat.lt_trans hm16 (by decide)) KB.out (by show V.heap.size ≠ 0; omega)
        (fun pre Z => Frm2 V.heap.size mb w5 Z ∧ (∃ N, MemAt Z mb (M ++ N) ∧ ∀ x ∈ N, a + 1 ≤ x.1.1 ∧ okM ds x) ∧ ∀ v ∈ pre, diffD (ds.drop (a + 1)) (sOr t (bitN v)) = false)
        (fun c pre Z => c = Code.ret ∧ (∃ v ∈ elems m, diffD (ds.drop (a + 1)) (sOr t (bitN v)) = true) ∧ Frm mb w Z ∧ (∃ N, MemAt Z mb (M ++ N) ∧ ∀ x ∈ N, a ≤ x.1.1 ∧ okM ds x) ∧ Z.cell? ⟨w.heap.size + 1, 0, none⟩ = some (.bool true))
        (fun pre Z Z' h ht => ⟨h.1.touched ht, (let ⟨N, h1, h2⟩ := h.2.1; ⟨N, h1.touched ht (by omega) (by omega), h2⟩), h.2.2⟩)
        (fun c pre Z Z' h ht => ⟨h.1, h.2.1, h.2.2.1.touched2 ht (by omega) (by omega), (let ⟨N, h1, h2⟩ := h.2.2.2.1; ⟨N, h1.touched ht (by omega) (by omega), h2⟩), cell_touched h.2.2.2.2 ht (by omega)⟩)
        (fun pre Z h => HF.out.tab.below ((h.1.to H05.out (by omega)).toBelow hBm hBw) hB0) ⟨Frm2.refl _ _ _, ⟨[], (by rw [List.append_nil]; exact HM5.out), fun x hx => by cases hx⟩, fun e he => absurd he (by simp)⟩ ?round ?done ?stop)
      case round =>
        intro lp pre x rest Z hel
        gi_wp2
        refine ⟨trivial, ?_⟩
        rintro V2 ⟨hfrm, ⟨N, hN, hNk⟩, hpre⟩ hBs0 hL2
        have h02 : Frm mb w V2 := hfrm.to H05.out (by omega)
        have hf2 := HF.out.keep HM.out (fun k o hk hne => h02.heap hk hne) (h02.toBelow hBm hBw)
        have k0 := hfrm.heap K05.out (by omega) (by omega)
        have k1 := hfrm.heap K15.out (by omega) (by omega)
        have p3 : V2.cell? ⟨qf, 0, none⟩ = some (fromF qd qm qf) := by rw [cell_of_row _ _ _ _ _ _ hf2.ff]; rfl
        have s0 : V2.cell? ⟨w.heap.size, 0, none⟩ = some (.int .i64 (a : Nat)) := by rw [cell_of_row _ _ _ _ _ _ k0]; rfl
        have s1 : V2.cell? ⟨w.heap.size, 1, none⟩ = some (.int .u64 (t : Nat)) := by rw [cell_of_row _ _ _ _ _ _ k0]; rfl
        have zq : qf < V2.heap.size := (Array.getElem?_eq_some_iff.1 hf2.ff).1
        have hx16 : x < 16 := by
          have : x ∈ elems m := by rw [hel]; simp
          unfold elems at this
          have hbit := (List.mem_filter.1 this).2
          apply Decidable.byContradiction
          intro hc
          have h6 := Nat.testBit_lt_two_pow (Nat.lt_of_lt_of_le (show m < 2 ^ 16 from hm16) (Nat.pow_le_pow_right (by decide) (show 16 ≤ x by omega)))
          rw [hbit] at h6; cases h6
        have hx64 : x < 64 := by omega
        have hbu : U64 (bitN x) := U64.bit hx64
        have hor : sOr t (bitN x) < 65536 := Nat.or_lt_two_pow (n := 16) ht (Nat.pow_lt_pow_right (by decide) hx16)
        have HFRM := Lib.hid hfrm; have H02 := Lib.hid h02; have HF2 := Lib.hid hf2; have HK0 := Lib.hid k0; have HK1 := Lib.hid k1; have HN := Lib.hid hN; have HNK := Lib.hid hNk; have HPRE := Lib.hid hpre; have HEL := Lib.hid hel
        clear hfrm h02 hf2 k0 k1 hN hNk hpre hel hBs0
        gi_wp2_with fail
        refine wpIn_region_all (by kernel_rfl) (by kernel_rfl) (by rintro ⟨a, w, h⟩; exact h) ?_
        refine wpAny_of_held (S := fun Z => Z.cell? ⟨qf, 0, none⟩ = some (fromF qd qm qf) ∧ Z.cell? ⟨w.heap.size, 0, none⟩ = some (.int .i64 (a : Nat)) ∧ Z.cell? ⟨w.heap.size, 1, none⟩ = some (.int .u64 (t : Nat))) _ _ _ _ ?_
        have hHeld : V2.cell? ⟨qf, 0, none⟩ = some (fromF qd qm qf) ∧ V2.cell? ⟨w.heap.size, 0, none⟩ = some (.int .i64 (a : Nat)) ∧ V2.cell? ⟨w.heap.size, 1, none⟩ = some (.int .u64 (t : Nat)) := ⟨p3, s0, s1⟩
        change wpAnyH _ _ fromBOps _ _ _ _ _ _
        refine abs_anyHS (fun Z => Below V2.heap.size V2 Z) (Below.drewn (Below.refl _ _)) hHeld ?_
        clear hHeld p3 s0 s1
        rintro V3 hb3 hHeld
        have HB3 := Lib.hid hb3
        have hs3 := hb3.size
        clear hb3
        refine wpAnyH_take (i := 0) (oi := { dst := some 32, op := Op.load 188 (Operand.tmp 3), type := 188, pos := "domain.go:112", after := #[], guard := none }) (v := ?_) rfl (by kernel_rfl) (by kernel_rfl) (by kernel_rfl) (fun _ _ _ h => h) (Or.inl ⟨by kernel_rfl, ?_⟩) hHeld ?_
        rotate_left
        · intro w hSw
          try dsimp only at hSw
          obtain ⟨hs0, hs1, hs2⟩ := hSw
          go_simp
          try with_reducible rfl
        try simp only [Act.put, List.setIfInBounds_toArray, List.set_cons_zero, List.set_cons_succ]
        refine wpAnyH_take (i := 1) (oi := { dst := some 33, op := Op.fieldAddr 190 (Operand.tmp 4) 0, type := 0, pos := "domain.go:112", after := #[], guard := none }) (v := ?_) rfl (by kernel_rfl) (by kernel_rfl) (by kernel_rfl) (fun _ _ _ h => h) (Or.inl ⟨by kernel_rfl, ?_⟩) hHeld ?_
        rotate_left
        · intro w hSw
          try dsimp only at hSw
          obtain ⟨hs0, hs1, hs2⟩ := hSw
          go_simp
          try with_reducible rfl
        try simp only [Act.put, List.setIfInBounds_toArray, List.set_cons_zero, List.set_cons_succ]
        refine wpAnyH_take (i := 2) (oi := { dst := some 34, op := Op.load 3 (Operand.tmp 33), type := 3, pos := "domain.go:112", after := #[{ on := 1, ground := Ground.data }], guard := none }) (v := ?_) rfl (by kernel_rfl) (by kernel_rfl) (by kernel_rfl) (fun _ _ _ h => h) (Or.inl ⟨by kernel_rfl, ?_⟩) hHeld ?_
        rotate_left
        · intro w hSw
          try dsimp only at hSw
          obtain ⟨hs0, hs1, hs2⟩ := hSw
          go_simp
          try with_reducible rfl
        try simp only [Act.put, List.setIfInBounds_toArray, List.set_cons_zero, List.set_cons_succ]
        refine wpAnyH_take (i := 3) (oi := { dst := some 35, op := Op.binOp BinOp.add 3 (Operand.tmp 34) (Operand.const (Value.int IntKind.i64 1)) 3, type := 3, pos := "domain.go:112", after := #[{ on := 2, ground := Ground.data }], guard := none }) (v := ?_) rfl (by kernel_rfl) (by kernel_rfl) (by kernel_rfl) (fun _ _ _ h => h) (Or.inl ⟨by kernel_rfl, ?_⟩) hHeld ?_
        rotate_left
        · intro w hSw
          try dsimp only at hSw
          obtain ⟨hs0, hs1, hs2⟩ := hSw
          go_simp
          try with_reducible rfl
        try simp only [Act.put, List.setIfInBounds_toArray, List.set_cons_zero, List.set_cons_succ]
        refine wpAnyH_take (i := 4) (oi := { dst := some 36, op := Op.fieldAddr 190 (Operand.tmp 4) 1, type := 0, pos := "domain.go:112", after := #[], guard := none }) (v := ?_) rfl (by kernel_rfl) (by kernel_rfl) (by kernel_rfl) (fun _ _ _ h => h) (Or.inl ⟨by kernel_rfl, ?_⟩) hHeld ?_
        rotate_left
        · intro w hSw
          try dsimp only at hSw
          obtain ⟨hs0, hs1, hs2⟩ := hSw
          go_simp
          try with_reducible rfl
        try simp only [Act.put, List.setIfInBounds_toArray, List.set_cons_zero, List.set_cons_succ]
        refine wpAnyH_take (i := 5) (oi := { dst := some 37, op := Op.load 56 (Operand.tmp 36), type := 56, pos := "domain.go:112", after := #[{ on := 4, ground := Ground.data }], guard := none }) (v := ?_) rfl (by kernel_rfl) (by kernel_rfl) (by kernel_rfl) (fun _ _ _ h => h) (Or.inl ⟨by kernel_rfl, ?_⟩) hHeld ?_
        rotate_left
        · intro w hSw
          try dsimp only at hSw
          obtain ⟨hs0, hs1, hs2⟩ := hSw
          go_simp
          try with_reducible rfl
        try simp only [Act.put, List.setIfInBounds_toArray, List.set_cons_zero, List.set_cons_succ]
        refine wpAnyH_take (i := 6) (oi := { dst := some 38, op := Op.move (Operand.tmp 8), type := 3, pos := "domain.go:112", after := #[], guard := none }) (v := ?_) rfl (by kernel_rfl) (by kernel_rfl) (by kernel_rfl) (fun _ _ _ h => h) (Or.inl ⟨by kernel_rfl, ?_⟩) hHeld ?_
        rotate_left
        · intro w hSw
          try dsimp only at hSw
          obtain ⟨hs0, hs1, hs2⟩ := hSw
          go_simp
          try with_reducible rfl
        try simp only [Act.put, List.setIfInBounds_toArray, List.set_cons_zero, List.set_cons_succ]
        refine wpAnyH_ready (rs := [7]) (by kernel_rfl) (by simp) ?_
        refine AllReadyH.cons (o := { dst := some 39, op := Op.call { callee := Callee.value (Operand.func 71), args := #[Operand.tmp 38], argTypes := #[3] }, type := 56, pos := "domain.go:112", after := #[{ on := 6, ground := Ground.data }], guard := none }) rfl (fun K hK => ?_) AllReadyH.nil
        go_simp
        refine (one_any x _ hx64).mono ?_
        rintro e w' ⟨rfl, hww⟩
        rw [hww]; clear hww w'
        go_wp2_with fail
        refine hK.out _ _ (hHeld) (fun hHeld => ?_)
        clear hK K
        try simp only [Act.put, List.setIfInBounds_toArray, List.set_cons_zero, List.set_cons_succ]
        refine wpAnyH_take (i := 8) (oi := { dst := some 40, op := Op.binOp BinOp.or 56 (Operand.tmp 37) (Operand.tmp 39) 56, type := 56, pos := "domain.go:112", after := #[{ on := 5, ground := Ground.data }, { on := 7, ground := Ground.data }], guard := none }) (v := ?_) rfl (by kernel_rfl) (by kernel_rfl) (by kernel_rfl) (fun _ _ _ h => h) (Or.inl ⟨by kernel_rfl, ?_⟩) hHeld ?_
        rotate_left
        · intro w hSw
          try dsimp only at hSw
          obtain ⟨hs0, hs1, hs2⟩ := hSw
          go_simp
          try with_reducible rfl
        try simp only [Act.put, List.setIfInBounds_toArray, List.set_cons_zero, List.set_cons_succ]
        refine wpAnyH_take (i := 9) (oi := { dst := some 41, op := Op.build 190 #[(0, Operand.tmp 35), (1, Operand.tmp 40)], type := 190, pos := "domain.go:112", after := #[{ on := 3, ground := Ground.data }, { on := 8, ground := Ground.data }], guard := none }) (v := ?_) rfl (by kernel_rfl) (by kernel_rfl) (by kernel_rfl) (fun _ _ _ h => h) (Or.inl ⟨by kernel_rfl, ?_⟩) hHeld ?_
        rotate_left
        · intro w hSw
          try dsimp only at hSw
          obtain ⟨hs0, hs1, hs2⟩ := hSw
          go_simp
          try with_reducible rfl
        try simp only [Act.put, List.setIfInBounds_toArray, List.set_cons_zero, List.set_cons_succ]
        refine wpAnyH_ready (rs := [10]) (by kernel_rfl) (by simp) ?_
        refine AllReadyH.cons (o := { dst := some 42, op := Op.call { callee := Callee.value (Operand.tmp 32), args := #[Operand.tmp 41], argTypes := #[190] }, type := 4, pos := "domain.go:112", after := #[{ on := 0, ground := Ground.data }, { on := 9, ground := Ground.data }, { on := 7, ground := Ground.chain }], guard := none }) rfl (fun K hK => ?_) AllReadyH.nil
        unfold fromF
        go_simp
        rw [show IntKind.i64.wrap ((a : Int) + 1) = ((a + 1 : Nat) : Int) by rw [IntKind.wrap_i64]; omega]
        have hz2 : w.heap.size ≤ V2.heap.size := H02.out.size
        have hz1 : w.heap.size + 1 < V2.heap.size := (Array.getElem?_eq_some_iff.1 HK1.out).1
        have hf3 := HF2.out.keep HN.out (fun k o hk _ => (HB3.out.block k (Array.getElem?_eq_some_iff.1 hk).1).trans hk) (HB3.out.mono (by omega))
        have q1 : V3.cell? ⟨qm, 0, none⟩ = some (.map (some mb)) := by rw [cell_of_row _ _ _ _ _ _ hf3.mm]; rfl
        have zm : qm < V3.heap.size := (Array.getElem?_eq_some_iff.1 hf3.mm).1
        refine (HIH.out (a + 1) (sOr t (bitN x)) (M ++ N) V3 (by omega) hor hf3 (HN.out.below HB3.out) ?ok).mono ?_
        case ok =>
          intro y hy
          rcases List.mem_append.1 hy with hy | hy
          · exact HMV.out y hy
          · exact (HNK.out y hy).2
        rintro e w7 ⟨rfl, ⟨N2, hN2, hNk2⟩, hfr7⟩
        have q17 := (hfr7.cell (o := 0) zm hqm).trans q1
        have s07 := (hfr7.cell (o := 0) (show w.heap.size < V3.heap.size by omega) (by omega)).trans hHeld.2.1
        have s17 := (hfr7.cell (o := 1) (show w.heap.size < V3.heap.size by omega) (by omega)).trans hHeld.2.2
        have p37 := (hfr7.cell (o := 0) (show qf < V3.heap.size by omega) hqf).trans hHeld.1
        have HS7 := Lib.hid (And.intro p37 (And.intro s07 s17))
        have HF7 := Lib.hid ((H02.out.next (Frm.of_below HB3.out)).next hfr7)
        have HFR7 := Lib.hid (Frm.next (mb := mb) (Frm.of_below HB3.out) hfr7); have HN2 := Lib.hid hN2; have HNK2 := Lib.hid hNk2
        have hk17 := HFR7.out.heap HK1.out (by omega)
        have HK17 := Lib.hid hk17
        clear hfr7 hN2 hNk2 q1 hf3 s07 s17 p37 hk17
        go_wp2_with fail
        refine hK.out _ _ (HS7.out) (fun hHeld => ?_)
        clear hK K
        try simp only [Act.put, List.setIfInBounds_toArray, List.set_cons_zero, List.set_cons_succ]
        refine wpAnyH_done (by kernel_rfl) ?_ _
        clear hHeld
        cases hdd : diffD (ds.drop (a + 1)) (sOr t (bitN x))
        case false =>
          have HDD := Lib.hid hdd
          clear hdd
          gi_wp2
          refine ⟨Keep.frm HFR7.out (by omega) (by omega), HFRM.out.step HFR7.out, ⟨N ++ N2, by rw [← List.append_assoc]; exact HN2.out, fun y hy => ?_⟩, fun v hv => ?_⟩
          · rcases List.mem_append.1 hy with hy | hy
            · exact HNK.out y hy
            · exact HNK2.out y hy
          · rcases List.mem_append.1 hv with hv | hv
            · exact HPRE.out v hv
            · rw [List.mem_singleton.1 hv]; exact HDD.out
        case true =>
          have hmiss : memFind a t (M ++ N ++ N2) 0 = none := by
            rw [List.append_assoc]
            refine memFind_skip HMF.out fun y hy => ?_
            rcases List.mem_append.1 hy with hy | hy
            · exact (HNK.out y hy).1
            · exact (HNK2.out y hy).1
          obtain ⟨o, hput, hM8⟩ := run_memPut HN2.out a t true hmiss
          have hf8 : Frm mb w7 (w7.putObj mb o) := (Frm.refl mb w7).put o
          generalize w7.putObj mb o = W8 at hput hM8 hf8
          have s07 := HS7.out.2.1
          have s17 := HS7.out.2.2
          have ce : W8.cell? ⟨w.heap.size + 1, 0, none⟩ = some (.bool false) := by rw [cell_of_row _ _ _ _ _ _ (hf8.heap HK17.out (by omega))]; rfl
          have fe : W8.frozen? ⟨w.heap.size + 1, 0, none⟩ = false := by simp [World.frozen?, hf8.heap HK17.out (by omega)]
          have HDD := Lib.hid hdd; have HM8 := Lib.hid hM8; have HF8 := Lib.hid hf8
          clear hdd hmiss hM8 hf8
          unfold spotV at hput
          gi_wp2
          have hz0 : w.heap.size ≤ V.heap.size := by omega
          refine ⟨(Keep.frm (HFR7.out.next HF8.out) (by omega) (by omega)).setCell (by show w.heap.size + 1 ≠ _; omega) _, rfl, ⟨x, by rw [HEL.out]; simp, HDD.out⟩, ((HF7.out.next HF8.out).setNew (by show w.heap.size ≤ w.heap.size + 1; omega) _), ⟨N ++ N2 ++ [((a, t), true)], ?_, ?_⟩, World.cell?_setCell_same _ _ _ ce⟩
          · have := HM8.out.setCell (p := ⟨w.heap.size + 1, 0, none⟩) (by show w.heap.size + 1 ≠ mb; omega) (.bool true)
            simpa only [List.append_assoc] using this
          · intro y hy
            rcases List.mem_append.1 hy with hy | hy
            · rcases List.mem_append.1 hy with hy | hy
              · have := HNK.out y hy; exact ⟨by omega, this.2⟩
              · have := HNK2.out y hy; exact ⟨by omega, this.2⟩
            · rw [List.mem_singleton.1 hy]
              refine ⟨Nat.le_refl _, ?_⟩
              show true = diffD (ds.drop a) t
              rw [HSP.out]
              unfold diffD
              rw [← HMM.out]
              exact (List.any_eq_true.2 ⟨x, by rw [HEL.out]; simp, HDD.out⟩).symm
      case done =>
        rintro D Z hD ⟨hfrm, ⟨N, hN, hNk⟩, hall⟩ hK
        have k0 := hfrm.heap K05.out (by omega) (by omega)
        have k1 := hfrm.heap K15.out (by omega) (by omega)
        have h02 : Frm mb w Z := hfrm.to H05.out (by omega)
        have hf2 := HF.out.keep HM.out (fun k o hk hne => h02.heap hk hne) (h02.toBelow hBm hBw)
        have q1 : Z.cell? ⟨qm, 0, none⟩ = some (.map (some mb)) := by rw [cell_of_row _ _ _ _ _ _ hf2.mm]; rfl
        have s0 : Z.cell? ⟨w.heap.size, 0, none⟩ = some (.int .i64 (a : Nat)) := by rw [cell_of_row _ _ _ _ _ _ k0]; rfl
        have s1 : Z.cell? ⟨w.heap.size, 1, none⟩ = some (.int .u64 (t : Nat)) := by rw [cell_of_row _ _ _ _ _ _ k0]; rfl
        have hmiss : memFind a t (M ++ N) 0 = none := memFind_skip HMF.out fun y hy => (hNk y hy).1
        obtain ⟨o, hput, hM8⟩ := run_memPut hN a t false hmiss
        have hf8 : Frm mb Z (Z.putObj mb o) := (Frm.refl mb Z).put o
        generalize Z.putObj mb o = W8 at hput hM8 hf8
        have ce : W8.cell? ⟨w.heap.size + 1, 0, none⟩ = some (.bool false) := by rw [cell_of_row _ _ _ _ _ _ (hf8.heap k1 (by omega))]; rfl
        have fe : W8.frozen? ⟨w.heap.size + 1, 0, none⟩ = false := by simp [World.frozen?, hf8.heap k1 (by omega)]
        have HK8 := Lib.hid (hf8.heap hK (by omega))
        have HM8 := Lib.hid hM8; have HF8 := Lib.hid (h02.next hf8); have HNK := Lib.hid hNk; have HALL := Lib.hid hall
        have HR : Hid (diffD (ds.drop a) t = false) := Lib.hid (by
          rw [HSP.out]
          unfold diffD
          rw [← HMM.out, Bool.eq_false_iff]
          intro hc
          obtain ⟨e, he, h⟩ := List.any_eq_true.1 hc
          rw [HALL.out e he] at h; cases h)
        clear hfrm hN hNk hall hK k0 k1 h02 hf2 hmiss hM8 hf8
        unfold spotV at hput
        go_wp2
        try rw [Exit.noGoto_ret]
        refine bodyM_ret1 (v := .bool false) D ((Below.heap_setCell _ _ _ _ (by show D ≠ w.heap.size + 1; omega)).trans HK8.out) (results_cell1 rfl rfl (loadVar_one Tryz.underlying4 rfl ?_)) rfl ⟨(by rw [HR.out] <;> rfl), ⟨N ++ [((a, t), false)], ?_, ?_⟩, ?_⟩
        · rw [cell_putObj (by omega)]; exact World.cell?_setCell_same _ _ _ ce
        · have := (HM8.out.setCell (p := ⟨w.heap.size + 1, 0, none⟩) (by show w.heap.size + 1 ≠ mb; omega) (.bool false)).putObj (D := D) (by omega) (.deferred none)
          simpa only [List.append_assoc] using this
        · intro y hy
          rcases List.mem_append.1 hy with hy | hy
          · have := HNK.out y hy; exact ⟨by omega, this.2⟩
          · rw [List.mem_singleton.1 hy]; exact ⟨Nat.le_refl _, HR.out.symm⟩
        · exact (HF8.out.setNew (p := ⟨w.heap.size + 1, 0, none⟩) (by show w.heap.size ≤ w.heap.size + 1; omega) _).putNew (by omega) _
      case stop =>
        rintro D c pre Z hD ⟨rfl, hex, hbel, ⟨N, hN, hNk⟩, hcell⟩ hK
        have HK := Lib.hid hK; have HEx := Lib.hid hex; have HBel := Lib.hid hbel; have HCell := Lib.hid hcell; have HN := Lib.hid hN; have HNK := Lib.hid hNk
        clear hK hex hbel hcell hN hNk
        gi_wp2
        try rw [Exit.noGoto_ret]
        refine bodyM_ret1 (v := .bool true) D HK.out (results_cell1 rfl rfl (loadVar_one Tryz.underlying4 rfl ?_)) rfl ⟨?_, ⟨N, HN.out.putObj (by omega) _, HNK.out⟩, HBel.out.putNew (by omega) _⟩
        · rw [cell_putObj (by omega)]; exact HCell.out
        · have hr : diffD (ds.drop a) t = true := by
            rw [HSP.out]
            unfold diffD
            rw [← HMM.out]
            exact List.any_eq_true.2 HEx.out
          rw [hr]
end Go.Proofs.YtdmmegmkdhinjaaGreatDoor

namespace Go.Proofs.YtdmmegmkdhinjaaGreatDoor
open Go Go.RowKit
attribute [local go_sem] cell_grow u64_sAnd u64_sOr u64_sDiff sDiff_all zeqI zneI sAnd_bit_zero sAnd_bit_zeroN sAnd_bit_nonzero Oper.semAt_some wide_fn wide_depth

set_option maxRecDepth 100000 in
set_option maxHeartbeats 2000000 in
theorem can2_any (r : Dr) (ds : List Nat) (vv nv dv : Value) (w : World) {B : Nat} (hr : RuleAt w B r vv nv) (hd : Us w B dv ds) (hB0 : 0 < B) (hB : B ≤ w.heap.size) (hT : Tab w)
    (h4 : ds.length ≤ 4) (hds : ∀ i, i < ds.length → nget ds i < 65536) :
    Gives Tryz.prog 158 #[ruleV r vv nv, dv] w (.bool (diffD ds 0)) := by
  obtain ⟨va, vc, rfl⟩ := hr.vars.slice
  obtain ⟨na, nc, rfl⟩ := hr.nums.slice
  have hdd := hd
  obtain ⟨da, dc, rfl⟩ := hdd.slice
  unfold Gives ruleV
  have hmm := @run_makeMap Tryz.prog
  go_enter Tryz.func158, Tryz.ntmps158
  go_upto_region 4 with fail
  refine abs_wp (fun W => W.heap[w.heap.size + 1]? = some (.cells #[.slice da ds.length dc] 22 (0, 0)) ∧ W.heap[w.heap.size + 1 + 1]? = some (.map #[] 0) ∧ W.heap[w.heap.size + 1 + 1 + 1]? = some (.cells #[.map (some (w.heap.size + 1 + 1))] 187 (0, 0)) ∧ W.heap[w.heap.size + 1 + 1 + 1 + 1]? = some (.cells #[fromF (w.heap.size + 1) (w.heap.size + 1 + 1 + 1) (w.heap.size + 1 + 1 + 1 + 1)] 188 (0, 0)) ∧ Below w.heap.size w W) ⟨(heap_new5 _ _ _ _ _ _).2.1, (heap_new5 _ _ _ _ _ _).2.2.1, (heap_new5 _ _ _ _ _ _).2.2.2.1, (heap_new5 _ _ _ _ _ _).2.2.2.2, Below.new5 _ _ _ _ _ _⟩ ?_
  rintro W ⟨k1, k2, k3, k4, hb⟩
  have hf : FromAt ds (.slice da ds.length dc) (w.heap.size + 1) (w.heap.size + 1 + 1 + 1) (w.heap.size + 1 + 1 + 1 + 1) (w.heap.size + 1 + 1) B W := ⟨hd.below hb hB, k1, k3, k4, hT.below hb (by omega), hB0, by omega⟩
  have hm : MemAt W (w.heap.size + 1 + 1) [] := ⟨_, _, k2, rfl⟩
  have HC := Lib.hid (from_any ds hds h4 (.slice da ds.length dc) (w.heap.size + 1) (w.heap.size + 1 + 1 + 1) (w.heap.size + 1 + 1 + 1 + 1) (w.heap.size + 1 + 1) B ds.length 0 0 [] W (by omega) (by decide) hf hm (fun x hx => by cases hx))
  have p4 : W.cell? ⟨w.heap.size + 1 + 1 + 1 + 1, 0, none⟩ = some (fromF (w.heap.size + 1) (w.heap.size + 1 + 1 + 1) (w.heap.size + 1 + 1 + 1 + 1)) := by rw [cell_of_row _ _ _ _ _ _ k4]; rfl
  unfold fromF at p4
  have HB := Lib.hid hb
  clear hf hm k1 k2 k3 k4 hb hmm hd hds hT hr
  go_wp2_with fail
  refine HC.out.mono ?_
  rintro e w5 ⟨rfl, -, hfr⟩
  have HFR := Lib.hid hfr
  clear hfr HC
  go_wp2
  go_ret
  exact ⟨rfl, (Frm.of_below HB.out |>.next HFR.out).toBelow (by omega) (Nat.le_refl _)⟩
end Go.Proofs.YtdmmegmkdhinjaaGreatDoor

namespace Go.Proofs.YtdmmegmkdhinjaaGreatDoor
open Go Go.RowKit
attribute [local go_sem] cell_grow u64_sAnd u64_sOr u64_sDiff sDiff_all zeqI zneI sAnd_bit_zero sAnd_bit_zeroN sAnd_bit_nonzero Oper.semAt_some wide_fn wide_depth

def len64L_ren : Go.Shelf.Ren := ⟨fun | 129 => 104 | n => n, fun | 53 => 56 | 3 => 3 | 4 => 4 | 46 => 83 | 5 => 5 | 9 => 9 | n => n, fun | n => n⟩
theorem len64L : Go.Proofs.Lays.n129 Tryz.prog len64L_ren := {
  mixed := by kernel_rfl
  f129 := Tryz.func104.trans (congrArg some (by kernel_rfl))
  t3 := Tryz.underlying3
  a3 := Tryz.isAgg3
  z3 := Tryz.sizeOf3
  v3 := Tryz.zeroValue3
  t4 := Tryz.underlying4
  a4 := Tryz.isAgg4
  z4 := Tryz.sizeOf4
  v4 := Tryz.zeroValue4
  t5 := Tryz.underlying5
  a5 := Tryz.isAgg5
  z5 := Tryz.sizeOf5
  v5 := Tryz.zeroValue5
  t9 := Tryz.underlying9
  a9 := Tryz.isAgg9
  z9 := Tryz.sizeOf9
  v9 := Tryz.zeroValue9
  t46 := Tryz.underlying83
  a46 := Tryz.isAgg83
  z46 := Tryz.sizeOf83
  v46 := Tryz.zeroValue83
  t53 := Tryz.underlying56
  a53 := Tryz.isAgg56
  z53 := Tryz.sizeOf56
  v53 := Tryz.zeroValue56 }
theorem len64 : Len64At Tryz.prog 104 := fun x w hx => by
  refine (Go.Proofs.Any.bits_Len64 len64L (x : Int) w (by omega) (by have : x < 18446744073709551616 := hx; omega)).mono ?_
  rintro e w' ⟨rfl, hw⟩
  exact ⟨by rfl, hw⟩
/-- What a formed rule says. -/
theorem ruleD_parts {r : Dr} {n : Int} (h : ruleD r n = true) : inB r.kind 1 4 = true ∧ r.vars.length ≤ 4 ∧ (∀ i, i < r.vars.length → 0 ≤ iget r.vars i ∧ iget r.vars i < n) ∧ (-1000 ≤ r.n ∧ r.n ≤ 1000) ∧ distinctD r.vars = true ∧ formD r = true := by
  unfold ruleD at h
  simp only [Bool.and_eq_true, decide_eq_true_eq] at h
  obtain ⟨⟨⟨⟨⟨h1, h2⟩, h3⟩, h4⟩, h5⟩, h6⟩ := h
  refine ⟨h1, by omega, fun i hi => ?_, ?_, h5, h6⟩
  · unfold allB at h3
    have := List.all_eq_true.1 h3 (iget r.vars i) (by unfold iget; rw [List.getElem?_eq_getElem hi]; exact List.getElem_mem hi)
    unfold inB at this
    simp only [Bool.and_eq_true, decide_eq_true_eq] at this
    omega
  · unfold inB at h4
    simp only [Bool.and_eq_true, decide_eq_true_eq] at h4
    exact h4
theorem allB_get {l : List Int} {lo hi : Int} (h : allB l lo hi = true) {i : Nat} (hi' : i < l.length) : lo ≤ iget l i ∧ iget l i ≤ hi := by
  unfold allB at h
  have := List.all_eq_true.1 h (iget l i) (by unfold iget; rw [List.getElem?_eq_getElem hi']; exact List.getElem_mem hi')
  unfold inB at this
  simp only [Bool.and_eq_true, decide_eq_true_eq] at this
  exact this
theorem can_any (r : Dr) {n : Int} (hr0 : ruleD r n = true) (ds : List Nat) (vv nv dv : Value) (w : World) {B : Nat} (hr : RuleAt w B r vv nv) (hd : Us w B dv ds) (hB0 : 0 < B) (hB : B ≤ w.heap.size) (hT : Tab w)
    (hl : ds.length = r.vars.length) (hds : ∀ i, i < ds.length → nget ds i < 65536) (hz : ds.contains 0 = false) :
    Gives Tryz.prog (canF r.kind) #[ruleV r vv nv, dv] w (.bool (canD r ds)) := by
  obtain ⟨hk, h4, hv, hn, -, hf⟩ := ruleD_parts hr0
  have hnz : ∀ i, i < ds.length → nget ds i ≠ 0 := fun i hi he => by
    rw [List.contains_eq_mem, decide_eq_false_iff_not] at hz
    apply hz
    rw [← he]
    unfold nget
    rw [List.getElem?_eq_getElem hi]
    exact List.getElem_mem hi
  unfold canF canD
  unfold formD at hf
  rcases kind_cases hk with h | h | h | h
  · rw [if_pos h, if_pos h]
    rw [if_pos h] at hf
    simp only [Bool.and_eq_true, decide_eq_true_eq, beq_iff_eq] at hf
    exact can1_any len64 r ds vv nv dv w hr hd hB0 hB hT (by omega) (by omega) (fun i hi => allB_get hf.2 (by omega)) (fun i hi => ⟨hds i hi, hnz i hi⟩)
  · rw [if_neg (by omega), if_pos h, if_neg (by omega), if_pos h]
    exact can2_any r ds vv nv dv w hr hd hB0 hB hT (by omega) hds
  · rw [if_neg (by omega), if_neg (by omega), if_pos h, if_neg (by omega), if_neg (by omega), if_pos h]
    rw [if_neg (by omega), if_neg (by omega), if_pos h] at hf
    simp only [Bool.and_eq_true, beq_iff_eq] at hf
    exact can3_any r ds vv nv dv w hr hd hB0 hB hT (by omega) hds
  · rw [if_neg (by omega), if_neg (by omega), if_neg (by omega), if_neg (by omega), if_neg (by omega), if_neg (by omega)]
    rw [if_neg (by omega), if_neg (by omega), if_neg (by omega), if_pos h] at hf
    simp only [Bool.and_eq_true, beq_iff_eq] at hf
    exact can4_any r ds vv nv dv w hr hd hB0 hB hT (by omega) hn hds
set_option maxRecDepth 100000 in
set_option maxHeartbeats 2000000 in
theorem possible_any (r : Dr) {n : Int} (hr0 : ruleD r n = true) (ds : List Nat) (vv nv dv : Value) (w : World) {B : Nat} (hr : RuleAt w B r vv nv) (hd : Us w B dv ds) (hB0 : 0 < B) (hB : B ≤ w.heap.size) (hT : Tab w)
    (hl : ds.length = r.vars.length) (hds : ∀ i, i < ds.length → nget ds i < 65536) :
    Gives Tryz.prog 69 #[ruleV r vv nv, dv] w (.bool (possD r ds)) := by
  obtain ⟨va, vc, rfl⟩ := hr.vars.slice
  obtain ⟨na, nc, rfl⟩ := hr.nums.slice
  obtain ⟨da, dc, rfl⟩ := hd.slice
  unfold Gives
  have hb0 := Below.new1 w (.cells #[.int .i64 r.kind, .slice va r.vars.length vc, .slice na r.nums.length nc, .int .i64 r.n] 69)
  have hrel := relationOf_any r _ _ _ (hr.below hb0 hB)
  have hk0 := heap_new0 w (.cells #[.int .i64 r.kind, .slice va r.vars.length vc, .slice na r.nums.length nc, .int .i64 r.n] 69)
  have HB0 := Lib.hid hb0; have HR := Lib.hid hr; have HD := Lib.hid hd; have HT := Lib.hid hT; have HREL := Lib.hid hrel; have HK0 := Lib.hid hk0
  have HIN := Lib.hid (ruleD_parts hr0).1
  have hcon := contains_us _ _ 0 _ (hd.below hb0 hB)
  have HCON := Lib.hid hcon
  have HL := Lib.hid hl
  clear hb0 hr hd hT hrel hk0 hcon hl
  unfold ruleV
  unfold ruleV at HREL
  go_enter Tryz.func69, Tryz.ntmps69
  go_wp2_with fail
  refine HCON.out.mono ?_
  rintro e w' ⟨rfl, hww⟩
  rw [hww]; clear hww w'
  have hin := HIN.out
  have hv : relV r (.slice va r.vars.length vc) (.slice na r.nums.length nc) = .iface (relT r.kind) (ruleV r (.slice va r.vars.length vc) (.slice na r.nums.length nc)) := by unfold relV; rw [hin]; rfl
  rw [hv] at HREL
  have HM := Lib.hid (fun m hm w => meth_can r.kind (ruleV r (.slice va r.vars.length vc) (.slice na r.nums.length nc)) m hm w)
  have HEN := Lib.hid (canF_enters r.kind)
  have hz : 0 < r.kind.natAbs ∨ True := Or.inr trivial
  cases hc : ds.contains 0
  case true =>
    have HP : Hid (possD r ds = false) := Lib.hid (by unfold possD; rw [hc]; rfl)
    clear hv hin hc
    go_wp2
    go_ret
    exact ⟨by rw [HP.out]; rfl, HB0.out⟩
  case false =>
    have HCA := Lib.hid (fun w' hb hw => can_any r hr0 ds _ _ _ w' (HR.out.below (B' := w.heap.size) hb hB) (HD.out.below (B' := w.heap.size) hb hB) hB0 hw (HT.out.below hb (by omega)) HL.out hds hc)
    have HP : Hid (possD r ds = canD r ds) := Lib.hid (by unfold possD; rw [hc]; rfl)
    obtain ⟨T, hT⟩ : ∃ T, T = relT r.kind := ⟨_, rfl⟩
    obtain ⟨x, hx⟩ : ∃ x, x = ruleV r (.slice va r.vars.length vc) (.slice na r.nums.length nc) := ⟨_, rfl⟩
    obtain ⟨F, hF⟩ : ∃ F, F = canF r.kind := ⟨_, rfl⟩
    rw [← hT, ← hx, ← hF] at HM
    rw [← hF] at HEN
    rw [← hT, ← hx] at HREL
    rw [← hF, ← hx] at HCA
    clear hv hin hc hT hx hF
    go_wp2_with fail
    refine HREL.out.mono ?_
    rintro e w1 ⟨rfl, hb1⟩
    have HB1 := Lib.hid (HB0.out.trans (hb1.mono (by simp)))
    clear hb1 HREL
    go_wp2_with fail
    rw [HM.out _ (by kernel_rfl)]
    simp only [Result.andThen_ok, HEN.out]
    go_wp2_with fail
    refine (HCA.out w1 HB1.out (by have := HB1.out.size; omega)).mono ?_
    rintro e w3 ⟨rfl, hb3⟩
    have HB3 := Lib.hid (HB1.out.trans (hb3.mono HB1.out.size))
    clear hb3
    go_wp2
    go_ret
    exact ⟨by rw [HP.out]; rfl, HB3.out⟩
end Go.Proofs.YtdmmegmkdhinjaaGreatDoor

namespace Go.Proofs.YtdmmegmkdhinjaaGreatDoor
open Go Go.RowKit
attribute [local go_sem] cell_grow u64_sAnd u64_sOr u64_sDiff sDiff_all zeqI zneI sAnd_bit_zero sAnd_bit_zeroN sAnd_bit_nonzero Oper.semAt_some wide_fn wide_depth

def fieldV (f : List Nat) : Value := .agg (natsV f).toArray
theorem padD_length {l : List Nat} (h : l.length ≤ 8) : (padD l).length = 8 := by unfold padD; simp; omega
def zero8 : List Nat := List.replicate 8 0
/-- Behind the store into an array: it is handed back. -/
theorem field_end (f : List Nat) (hf : f.length = 8) {B : Nat} (w W : World) (q r : Nat) (hbl : W.heap[q]? = some (.cells (natsV f).toArray 77 (0, 0)))
    (hz : ∃ z : Array Value, z.size = 8 ∧ W.heap[r]? = some (.cells z 77 (0, 0))) (hb : Below B w W) (hr : B ≤ r) :
    W.rangeAt q 0 (natsV f) ∧ W.there r 0 (natsV f).toArray.size ∧ (Tryz.prog.info? 77).map (·.size) = some (natsV f).length ∧
    (loadVar 77 ⟨r, 0, none⟩).run Tryz.prog (W.setCells r 0 (natsV f)) = .ok (fieldV f) (W.setCells r 0 (natsV f)) ∧
    Below B w (W.setCells r 0 (natsV f)) := by
  obtain ⟨z, hz1, hz2⟩ := hz
  have hl : (natsV f).length = 8 := by rw [natsV_length, hf]
  have hi : (Tryz.prog.info? 77).map (·.size) = some (natsV f).length := by rw [hl]; kernel_rfl
  have ht : W.there r 0 (natsV f).length := fresh_there hz2 (by rw [hz1, hl])
  exact ⟨row_rangeL hbl, by simpa using ht, hi, run_loadVar_mid _ _ 0 _ _ _ (World.rangeAt_setCells_same W _ 0 _ ht) Tryz.underlying77 rfl hi, below_setCells hr _ _ _ hb⟩
theorem padD_cells (l : List Nat) : natsV (padD l) = natsV l ++ (natsV zero8).drop l.length := by
  unfold padD zero8 natsV
  rw [List.map_append, ← List.map_drop, List.drop_replicate]
set_option maxRecDepth 100000 in
set_option maxHeartbeats 2000000 in
theorem fieldOf_any (p : Dp) (dv rv : Value) (w : World) {B : Nat} (hdv : Us w B dv p.doms) (hB : B ≤ w.heap.size) (h1 : 1 ≤ p.doms.length) (h8 : p.doms.length ≤ 8) (ra : Option Addr) (rn rc : Nat) (hrv : rv = .slice ra rn rc) :
    Gives Tryz.prog 43 #[.agg #[dv, rv]] w (fieldV (padD p.doms)) := by
  unfold Gives
  subst hrv
  obtain ⟨_, da, dc, rfl, hd1, hd2, hd3⟩ := hdv
  obtain ⟨db, doff, rfl, hdb, hdcell⟩ := hd3 (by omega)
  go_enter Tryz.func43, Tryz.ntmps43
  go_upto_region 2 with fail
  refine abs_wp (fun W => W.heap[w.heap.size]? = some (.cells #[.slice (some ⟨db, doff, none⟩) p.doms.length dc, .slice ra rn rc] 25 (0, 0)) ∧ W.heap[w.heap.size + 1]? = some (.cells (natsV zero8).toArray 77 (0, 0)) ∧ W.heap[w.heap.size + 1 + 1]? = some (.cells (natsV zero8).toArray 77 (0, 0)) ∧ Below w.heap.size w W) ⟨(heap_new3 _ _ _ _).1, (heap_new3 _ _ _ _).2.1, (heap_new3 _ _ _ _).2.2, Below.new3 _ _ _ _⟩ ?_
  rintro W ⟨k0, k1, k2, hb⟩
  have zW : w.heap.size + 1 + 1 < W.heap.size := (Array.getElem?_eq_some_iff.1 k2).1
  have z0 : w.heap.size < W.heap.size := by omega
  have q0 : W.cell? ⟨w.heap.size, 0, none⟩ = some (.slice (some ⟨db, doff, none⟩) p.doms.length dc) := by rw [cell_of_row _ _ _ _ _ _ k0]; rfl
  have K1 := Lib.hid k1; have K2 := Lib.hid k2; have HB := Lib.hid hb
  have HC : Hid (∀ j v, (natsV p.doms)[j]? = some v → w.cell? (Addr.add ⟨db, doff, none⟩ j) = some v) := Lib.hid fun j v hv => by
    have hj : j < p.doms.length := by have := (List.getElem?_eq_some_iff.1 hv).1; rwa [natsV_length] at this
    rw [natsV_get _ _ hj] at hv
    rw [Addr.add_mid, hdcell j (by omega), hv]
  have hdb' : db < w.heap.size := by omega
  clear k0 k1 k2 hb hd3 hdcell
  refine wp_region_qbt 3 (by kernel_rfl) (by kernel_rfl) ?_
  simp only [List.take_succ_cons, List.take_zero, List.drop_succ_cons, List.drop_zero]
  repeat go_big_quiet_step (fail)
  refine wpQuiet_nil ?_
  intro w2 hb2
  have k22 := heap_later K2.out hb2 zW
  have k12 := heap_later K1.out hb2 (by omega)
  have hb2' := HB.out.trans (hb2.mono HB.out.size)
  have HC2 : Hid (∀ j v, (natsV p.doms)[j]? = some v → w2.cell? (Addr.add ⟨db, doff, none⟩ j) = some v) := Lib.hid fun j v hv => by
    rw [← HC.out j v hv, Addr.add_mid]
    exact hb2'.cell (p := ⟨db, doff + j, none⟩) (by show db < w.heap.size; omega)
  have K12 := Lib.hid k12; have K22 := Lib.hid k22; have HB2 := Lib.hid hb2'
  clear k12 k22 hb2' hb2 HC K1 K2 HB
  refine wpList_copy_sz rfl _ _ _ _ rfl 56 1 Tryz.underlying22 (by kernel_rfl) (w.heap.size + 1 + 1) 0 8 8 ⟨db, doff, none⟩ p.doms.length dc rfl rfl (natsV zero8).toArray 77 K22.out (natsV p.doms) ?hn HC2.out ?hfit (natsV_one _) ?_
  case hn => rw [natsV_length, Nat.mul_one]; exact (Nat.min_eq_left h8).symm
  case hfit => rw [natsV_length]; simp only [List.size_toArray, natsV_length, zero8, List.length_replicate]; omega
  rw [show (List.take 0 (natsV zero8).toArray.toList ++ (natsV p.doms ++ List.drop (0 + (natsV p.doms).length) (natsV zero8).toArray.toList)).toArray = (natsV (padD p.doms)).toArray by rw [padD_cells, natsV_length, Nat.zero_add]; rfl]
  have hrow := setRow_heap w2 (w.heap.size + 1 + 1) _ (natsV (padD p.doms)).toArray _ _ K22.out
  have hoth := (setRow_other w2 (w.heap.size + 1 + 1) (w.heap.size + 1) (natsV (padD p.doms)).toArray (by omega)).trans K12.out
  have hb3 := below_setRow HB2.out (show w.heap.size ≤ w.heap.size + 1 + 1 by omega) (natsV (padD p.doms)).toArray
  generalize w2.setRow (w.heap.size + 1 + 1) (natsV (padD p.doms)).toArray = W3 at hrow hoth hb3
  have E' := Lib.hid (field_end (padD p.doms) (padD_length h8) w W3 (w.heap.size + 1 + 1) (w.heap.size + 1) hrow ⟨_, rfl, hoth⟩ hb3 (by omega))
  clear hrow hoth hb3 K22 K12 HB2 HC2
  go_wp2_with (first | (refine wpList_load_mid rfl 77 _ rfl _ _ rfl _ _ E'.out.1 Tryz.underlying77 rfl E'.out.2.2.1 ?_) | (refine wpList_store_mid rfl 77 _ _ rfl _ _ _ rfl rfl E'.out.2.1 (by simpa using E'.out.2.2.1) (all_oneCell_toArray (natsV_one _)) ?_))
  exact bodyPost_ret (v := fieldV (padD p.doms)) (results_cell1 rfl rfl (by simpa using E'.out.2.2.2.1)) rfl ⟨rfl, by simpa using E'.out.2.2.2.2⟩
end Go.Proofs.YtdmmegmkdhinjaaGreatDoor

namespace Go.Proofs.YtdmmegmkdhinjaaGreatDoor
open Go Go.RowKit
attribute [local go_sem] cell_grow u64_sAnd u64_sOr u64_sDiff sDiff_all zeqI zneI sAnd_bit_zero sAnd_bit_zeroN sAnd_bit_nonzero

theorem infoU : (Tryz.prog.info? 56).map (fun i => (i.zero, i.size, i.bytes)) = some (some (.int .u64 0), 1, 8) := by kernel_rfl
/-- Every number of a rule's variables is one of a field's. -/
def VarsIn (r : Dr) : Prop := ∀ i, i < r.vars.length → 0 ≤ iget r.vars i ∧ iget r.vars i < 8
def ofAt (f : List Nat) (r : Dr) (i : Nat) (v : Int) : List Nat := if hasD (nget (ofD f r.vars) i) v then (ofD f r.vars).set i (bitN v.toNat) else ofD f r.vars
def OfP (w : World) (l : List Nat) (is : Bool) (e : Ending) (w' : World) : Prop := ∃ v, e = .returned (.tuple #[v, .bool is]) ∧ w'.ownsRow w.heap.size 56 1 v l.length (natsV l) ∧ Below w.heap.size w w'
theorem ofD_length (f : List Nat) (vars : List Int) : (ofD f vars).length = vars.length := by unfold ofD; simp
theorem ofD_get (f : List Nat) (vars : List Int) {i : Nat} (h : i < vars.length) : nget (ofD f vars) i = nget f (iget vars i).toNat := by
  unfold ofD iget
  show (_ : Option Nat).getD 0 = _
  rw [List.getElem?_map, List.getElem?_eq_getElem h]
  rfl
theorem ofD_take (f : List Nat) (vars : List Int) {k : Nat} (h : k < vars.length) : ofD f (vars.take (k + 1)) = ofD f (vars.take k) ++ [nget f (iget vars k).toNat] := by
  unfold ofD iget
  rw [List.take_add_one, List.getElem?_eq_getElem h, List.map_append]
  rfl
theorem ofAt_length (f : List Nat) (r : Dr) (i : Nat) (v : Int) : (ofAt f r i v).length = r.vars.length := by
  unfold ofAt
  split
  · rw [List.length_set, ofD_length]
  · exact ofD_length _ _
set_option maxRecDepth 100000 in
set_option maxHeartbeats 2000000 in
theorem of_any (f : List Nat) (hf : f.length = 8) (hu : U64l f) (r : Dr) (hv : VarsIn r) (at_ : Nat) (hat : at_ < r.vars.length) (v : Int) (h4 : r.vars.length ≤ 4) (vv nv : Value) (w : World) {B : Nat} (hr : RuleAt w B r vv nv) (hB : B ≤ w.heap.size) :
    Calls Tryz.prog 68 #[fieldV f, ruleV r vv nv, .int .i64 (at_ : Nat), .int .i64 v] w (OfP w (ofAt f r at_ v) (hasD (nget (ofD f r.vars) at_) v)) := by
  obtain ⟨va, vc, rfl⟩ := hr.vars.slice
  obtain ⟨na, nc, rfl⟩ := hr.nums.slice
  unfold ruleV fieldV
  obtain ⟨i0, hin, hz0, hz1, hz2⟩ := info_parts infoU
  have HR := Lib.hid hr; have HU := Lib.hid hu; have HV := Lib.hid hv; have HF := Lib.hid hf
  clear hr hu hv hf
  go_enter Tryz.func68, Tryz.ntmps68
  go_upto_region 1 with fail
  refine abs_wp (fun W => W.heap[w.heap.size]? = some (.cells (natsV f).toArray 77 (0, 0)) ∧ W.heap[w.heap.size + 1]? = some (.cells #[.int .i64 r.kind, .slice va r.vars.length vc, .slice na r.nums.length nc, .int .i64 r.n] 69 (0, 0)) ∧ Below w.heap.size w W) ⟨(heap_new2 _ _ _).1, (heap_new2 _ _ _).2, Below.new2 _ _ _⟩ ?_
  rintro W ⟨k0, k1, hb⟩
  have zW : w.heap.size + 1 < W.heap.size := (Array.getElem?_eq_some_iff.1 k1).1
  have q1 : W.cell? ⟨w.heap.size + 1, 1, none⟩ = some (.slice va r.vars.length vc) := by rw [cell_of_row _ _ _ _ _ _ k1]; rfl
  have K0 := Lib.hid k0; have K1 := Lib.hid k1; have HB := Lib.hid hb
  clear k0 k1 hb
  go_wp2_with fail
  go_loopw [10, 17] (fun ov iv wr => ∃ k : Nat, k ≤ r.vars.length ∧ iv = .int .i64 k ∧ wr.ownsRow W.heap.size 56 1 ov k (natsV (ofD f (r.vars.take k))) ∧ Below W.heap.size W wr) (fun _ iv _ => r.vars.length - (intOf iv).toNat)
  case atStart => exact ⟨0, Nat.zero_le _, rfl, World.ownsRow_nil _ _ _ _, Below.refl _ _⟩
  case round =>
    obtain ⟨k, hk, rfl, hown, hbw⟩ := hrel
    have HOW := Lib.hid hown; have HBW := Lib.hid hbw
    by_cases hlt : k < r.vars.length
    · obtain ⟨_, a1, c1, hae, _, _, hr1⟩ := HR.out.vars.below (HB.out.trans (hbw.mono HB.out.size)) hB
      cases hae
      obtain ⟨b1, o1, rfl, hb1, hc1⟩ := hr1 (by omega)
      have q0 : wr.cell? ⟨b1, o1 + k, none⟩ = some (.int .i64 (iget r.vars k)) := hc1 k (by omega)
      obtain ⟨x, hx⟩ : ∃ x : Nat, iget r.vars k = (x : Int) := ⟨(iget r.vars k).toNat, by have := (HV.out k hlt).1; omega⟩
      have hx8 : x < 8 := by have := (HV.out k hlt).2; omega
      have hnx : nget (ofD f r.vars) k = nget f x := by rw [ofD_get f _ hlt, hx]; rfl
      rw [hx] at q0
      have q2 : wr.cell? ⟨w.heap.size, x, none⟩ = some (.int .u64 (nget f x : Nat)) := by
        rw [cell_of_row _ _ _ _ _ _ (heap_later K0.out hbw (by omega)), List.getElem?_toArray, natsV_get f x (by rw [HF.out]; omega)]
      have HTK : Hid (ofD f (r.vars.take (k + 1)) = ofD f (r.vars.take k) ++ [nget f x]) := Lib.hid (by rw [ofD_take f _ hlt, hx]; rfl)
      obtain ⟨y, hy⟩ : ∃ y, y = nget f x := ⟨_, rfl⟩
      rw [← hy] at q2 HTK
      have HYU := Lib.hid (hy ▸ HU.out.get x : U64 y)
      clear hr1 hc1 hown hbw hx hnx hy
      have hnw := Below.new1 wr (.cells #[.int .u64 (y : Nat)] 56)
      have HNW := Lib.hid hnw
      clear hnw
      go_wp2_with (at_builtin; refine wpList_append_own _ rfl _ _ 22 rfl W.heap.size 56 i0 (.int .u64 0) 1 8 Tryz.underlying22 hin hz0 hz1 hz2 rfl (by decide) _ _ _ rfl (HOW.out.alloc _) ⟨wr.heap.size, 0, none⟩ 1 1 (natsV [y]) rfl rfl ?c1 ?c2 ?c3 ?c4 ?c5 ?_)
      case c1 =>
        intro q u hq
        match q, hq with
        | 0, hq => cases hq; rw [Addr.add_lit, Nat.zero_add, cell_of_row _ _ _ _ _ _ (heap_new0 wr _)]; rfl
      case c2 => exact natsV_one _
      case c3 => unfold maxLen; omega
      case c4 => omega
      case c5 => have := HBW.out.size; simp; omega
      intro v' w3 hown3 hgrow3 _
      have hb3 := ((HBW.out.trans (HNW.out.mono HBW.out.size)).grown hgrow3 (by have := HBW.out.size; simp; omega) (fun q hq => (HOW.out.lt q hq).1))
      rw [natsV_append, ← HTK.out] at hown3
      have HO3 := Lib.hid hown3; have HB3 := Lib.hid hb3
      clear hown3 hgrow3 hb3
      go_wp2
      go_roundw
      case rel => exact ⟨k + 1, by omega, by go_num, HO3.out, HB3.out⟩
      case measure => simp [intOf]; omega
    · have hk2 : k = r.vars.length := by omega
      subst hk2
      have HTA : Hid (ofD f (r.vars.take r.vars.length) = ofD f r.vars) := Lib.hid (by rw [List.take_length])
      have hown2 := hown
      rw [HTA.out] at hown2
      obtain ⟨g, cap, cur, rfl, hg1, hg2, hg3, hg4, hg5⟩ := own_some hown2 (by omega)
      have HOW2 := Lib.hid hown2
      have qa : wr.cell? ⟨g, at_, none⟩ = some (.int .u64 (nget (ofD f r.vars) at_ : Nat)) := by
        rw [hown2.cellAt at_ (by omega), natsV_get _ _ (by rw [ofD_length]; exact hat)]
      have fa : wr.frozen? ⟨g, at_, none⟩ = false := hown2.frozenAt at_
      have huu : U64 (nget (ofD f r.vars) at_) := by rw [ofD_get f _ hat]; exact HU.out.get _
      have HUU := Lib.hid huu
      have HST := Lib.hid (fun u => (hown2.stored at_ u).1)
      have hatz : (at_ : Int) < ((r.vars.length : Nat) : Int) := by omega
      have HBT := Lib.hid (HB.out.trans (hbw.mono HB.out.size))
      have hgw : w.heap.size ≤ g := Nat.le_trans HB.out.size hg1
      clear hown hown2 hbw hg1 hg2 hg5 HOW HTA huu
      cases hh : hasD (nget (ofD f r.vars) at_) v
      case false =>
        have HL : Hid (ofAt f r at_ v = ofD f r.vars) := Lib.hid (by unfold ofAt; rw [hh]; rfl)
        go_wp2_with (go_at_call 81; refine (hasd_any _ v _ HUU.out).mono ?_; rintro e w' ⟨rfl, hww⟩; rw [hww, hh]; clear hww w')
        go_ret2
        rw [HL.out, hh]
        exact ⟨_, rfl, by rw [ofD_length]; exact own_mono HOW2.out HB.out.size, HBT.out⟩
      case true =>
        have HL : Hid (ofAt f r at_ v = (ofD f r.vars).set at_ (bitN v.toNat)) := Lib.hid (by unfold ofAt; rw [hh]; rfl)
        obtain ⟨m, rfl⟩ : ∃ m : Nat, v = (m : Int) := ⟨v.toNat, by unfold hasD inB at hh; simp only [Bool.and_eq_true, decide_eq_true_eq] at hh; omega⟩
        have hm : m < 64 := by unfold hasD inB at hh; simp only [Bool.and_eq_true, decide_eq_true_eq] at hh; omega
        go_wp2_with (first | (go_at_call 81; refine (hasd_any _ _ _ HUU.out).mono ?_; rintro e w' ⟨rfl, hww⟩; rw [hww, hh]; clear hww w') | (go_at_call 71; refine (one_any m _ hm).mono ?_; rintro e w' ⟨rfl, hww⟩; rw [hww]; clear hww w'))
        go_ret2
        rw [HL.out, hh]
        refine ⟨_, rfl, ?_, HBT.out.setCell (p := ⟨g, at_, none⟩) hgw _⟩
        have := HST.out (.int .u64 (bitN m : Nat))
        rw [show (natsV (ofD f r.vars)).set at_ (.int .u64 (bitN m : Nat)) = natsV ((ofD f r.vars).set at_ (bitN m)) by unfold natsV; rw [List.map_set]; rfl] at this
        rw [List.length_set, ofD_length]
        exact own_mono this HB.out.size
end Go.Proofs.YtdmmegmkdhinjaaGreatDoor

namespace Go.Proofs.YtdmmegmkdhinjaaGreatDoor
open Go Go.RowKit
attribute [local go_sem] cell_grow u64_sAnd u64_sOr u64_sDiff sDiff_all zeqI zneI sAnd_bit_zero sAnd_bit_zeroN sAnd_bit_nonzero

theorem owns_us {w : World} {base : Nat} {v : Value} {n : Nat} {xs : List Nat} (h : w.ownsRow base 56 1 v n (natsV xs)) (hn : n ≤ 140737488355328) (hl : xs.length = n) : Us w w.heap.size v xs := by
  have := ownsRow_row h hn (c := fun i => .int .u64 (nget xs i : Nat)) (fun i hi => natsV_get xs i (by omega))
  unfold Us
  rw [hl]
  exact this
/-- Eight domains. -/
structure Fok (f : List Nat) : Prop where
  len : f.length = 8
  lt : ∀ i, nget f i < 65536
theorem Fok.u64 {f : List Nat} (h : Fok f) : U64l f := fun x hx => by
  obtain ⟨i, hi, he⟩ := List.mem_iff_getElem.1 hx
  have := h.lt i
  unfold nget at this
  rw [List.getElem?_eq_getElem hi, he] at this
  exact Nat.lt_trans this (by decide)
theorem ruleD_vars {r : Dr} {n : Int} (h : ruleD r n = true) (hn : n ≤ 8) : VarsIn r := fun i hi => by
  have := (ruleD_parts h).2.2.1 i hi
  omega
theorem ofD_lt {f : List Nat} (hf : Fok f) (vars : List Int) (i : Nat) : nget (ofD f vars) i < 65536 := by
  by_cases h : i < vars.length
  · rw [ofD_get f _ h]; exact hf.lt _
  · unfold nget; rw [List.getElem?_eq_none (by rw [ofD_length]; omega)]; decide
theorem hasD_nat {d : Nat} {v : Int} (h : hasD d v = true) : ∃ m : Nat, v = (m : Int) ∧ m < 16 := by
  unfold hasD inB at h
  simp only [Bool.and_eq_true, decide_eq_true_eq] at h
  exact ⟨v.toNat, by omega, by omega⟩
theorem nget_set (l : List Nat) (i : Nat) (x : Nat) (j : Nat) : nget (l.set i x) j = if i = j ∧ i < l.length then x else nget l j := by
  unfold nget
  rw [List.getElem?_set]
  by_cases h : i = j
  · subst h
    by_cases h2 : i < l.length
    · simp [h2]
    · simp [h2]
  · simp [h]
theorem ofAt_lt {f : List Nat} (hf : Fok f) (r : Dr) (i : Nat) (v : Int) (j : Nat) : nget (ofAt f r i v) j < 65536 := by
  unfold ofAt
  split
  · rename_i h
    obtain ⟨m, rfl, hm⟩ := hasD_nat h
    rw [nget_set]
    split
    · show bitN m < 65536
      exact Nat.pow_lt_pow_right (by decide) hm
    · exact ofD_lt hf _ _
  · exact ofD_lt hf _ _
set_option maxRecDepth 100000 in
set_option maxHeartbeats 2000000 in
theorem supported_any (f : List Nat) (hf : Fok f) (r : Dr) {n : Int} (hr0 : ruleD r n = true) (hn : n ≤ 8) (at_ : Nat) (hat : at_ < r.vars.length) (v : Int) (vv nv : Value) (w : World) {B : Nat} (hr : RuleAt w B r vv nv) (hB0 : 0 < B) (hB : B ≤ w.heap.size) (hT : Tab w) :
    Gives Tryz.prog 109 #[fieldV f, ruleV r vv nv, .int .i64 (at_ : Nat), .int .i64 v] w (.bool (suppD f r at_ v)) := by
  unfold Gives
  have h4 := (ruleD_parts hr0).2.1
  have HO := Lib.hid (fun w' hb => of_any f hf.len hf.u64 r (ruleD_vars hr0 hn) at_ hat v h4 vv nv w' (hr.below (B' := w.heap.size) hb hB))
  obtain ⟨va, vc, rfl⟩ := hr.vars.slice
  obtain ⟨na, nc, rfl⟩ := hr.nums.slice
  have hi : (Tryz.prog.info? 77).map (·.size) = some (natsV f).length := by rw [natsV_length, hf.len]; kernel_rfl
  have HI := Lib.hid hi; have HR := Lib.hid hr; have HT := Lib.hid hT; have HF := Lib.hid hf
  clear hi hr hT hf
  unfold ruleV fieldV
  unfold ruleV fieldV at HO
  go_enter Tryz.func109, Tryz.ntmps109
  go_upto_region 1 with fail
  refine abs_wp (fun W => W.heap[w.heap.size]? = some (.cells (natsV f).toArray 77 (0, 0)) ∧ W.heap[w.heap.size + 1]? = some (.cells #[.int .i64 r.kind, .slice va r.vars.length vc, .slice na r.nums.length nc, .int .i64 r.n] 69 (0, 0)) ∧ Below w.heap.size w W) ⟨(heap_new2 _ _ _).1, (heap_new2 _ _ _).2, Below.new2 _ _ _⟩ ?_
  rintro W ⟨k0, k1, hb⟩
  have zW : w.heap.size + 1 < W.heap.size := (Array.getElem?_eq_some_iff.1 k1).1
  have hrow := row_rangeL k0
  have m0 : W.cell? ⟨w.heap.size + 1, 0, none⟩ = some (.int .i64 r.kind) := by rw [cell_of_row _ _ _ _ _ _ k1]; rfl
  have m1 : W.cell? ⟨w.heap.size + 1, 1, none⟩ = some (.slice va r.vars.length vc) := by rw [cell_of_row _ _ _ _ _ _ k1]; rfl
  have m2 : W.cell? ⟨w.heap.size + 1, 2, none⟩ = some (.slice na r.nums.length nc) := by rw [cell_of_row _ _ _ _ _ _ k1]; rfl
  have m3 : W.cell? ⟨w.heap.size + 1, 3, none⟩ = some (.int .i64 r.n) := by rw [cell_of_row _ _ _ _ _ _ k1]; rfl
  have HRG := Lib.hid hrow; have HB := Lib.hid hb; have K1 := Lib.hid k1
  clear k0 k1 hb hrow
  go_wp2_with (refine wpList_load_mid rfl 77 _ rfl _ _ rfl _ _ HRG.out Tryz.underlying77 rfl HI.out ?_)
  refine (HO.out W HB.out (by have := HB.out.size; omega)).mono ?_
  rintro e w2 ⟨lv, rfl, hown, hb2⟩
  have hb02 := HB.out.trans (hb2.mono HB.out.size)
  have k12 := heap_later K1.out hb2 zW
  have hus := owns_us hown (by rw [ofAt_length]; omega) rfl
  obtain ⟨la, lc, rfl⟩ := hus.slice
  have m0 : w2.cell? ⟨w.heap.size + 1, 0, none⟩ = some (.int .i64 r.kind) := by rw [cell_of_row _ _ _ _ _ _ k12]; rfl
  have m1 : w2.cell? ⟨w.heap.size + 1, 1, none⟩ = some (.slice va r.vars.length vc) := by rw [cell_of_row _ _ _ _ _ _ k12]; rfl
  have m2 : w2.cell? ⟨w.heap.size + 1, 2, none⟩ = some (.slice na r.nums.length nc) := by rw [cell_of_row _ _ _ _ _ _ k12]; rfl
  have m3 : w2.cell? ⟨w.heap.size + 1, 3, none⟩ = some (.int .i64 r.n) := by rw [cell_of_row _ _ _ _ _ _ k12]; rfl
  have HP := Lib.hid (possible_any r hr0 (ofAt f r at_ v) _ _ _ w2 ((HR.out.below (B' := w.heap.size) hb02 hB).mono (Nat.le_trans hB hb02.size)) hus (by have := hb02.size; omega) (Nat.le_refl _) (HT.out.below hb02 (by omega)) (ofAt_length f r at_ v) (fun i _ => ofAt_lt HF.out r at_ v i))
  have HB2 := Lib.hid hb02
  unfold ruleV at HP
  clear hown hb2 hb02 k12 hus
  cases hh : hasD (nget (ofD f r.vars) at_) v
  case false =>
    have HS : Hid (suppD f r at_ v = false) := Lib.hid (by unfold suppD; rw [hh]; rfl)
    go_wp2
    go_ret
    exact ⟨by rw [HS.out]; rfl, HB2.out⟩
  case true =>
    have HS : Hid (suppD f r at_ v = possD r (ofAt f r at_ v)) := Lib.hid (by unfold suppD ofAt; rw [hh]; rfl)
    go_wp2_with fail
    refine HP.out.mono ?_
    rintro e w3 ⟨rfl, hb3⟩
    have HB3 := Lib.hid (HB2.out.trans (hb3.mono HB2.out.size))
    clear hb3
    go_wp2
    go_ret
    exact ⟨by rw [HS.out]; rfl, HB3.out⟩
end Go.Proofs.YtdmmegmkdhinjaaGreatDoor

namespace Go.Proofs.YtdmmegmkdhinjaaGreatDoor
open Go Go.RowKit
attribute [local go_sem] cell_grow u64_sAnd u64_sOr u64_sDiff sDiff_all zeqI zneI sAnd_bit_zero sAnd_bit_zeroN sAnd_bit_nonzero

theorem probD_parts {p : Dp} (h : probD p = true) : 1 ≤ p.doms.length ∧ p.doms.length ≤ 8 ∧ p.rules.length ≤ 12 ∧ (∀ i, nget p.doms i < 65536) ∧ ∀ i, i < p.rules.length → ruleD (drget p.rules i) p.doms.length = true := by
  unfold probD inB at h
  simp only [Bool.and_eq_true, decide_eq_true_eq] at h
  obtain ⟨⟨⟨h1, h2⟩, h3⟩, h4⟩ := h
  refine ⟨by omega, by omega, by omega, fun i => ?_, fun i hi => ?_⟩
  · unfold nget
    by_cases hi : i < p.doms.length
    · rw [List.getElem?_eq_getElem hi]
      exact of_decide_eq_true (List.all_eq_true.1 h3 _ (List.getElem_mem hi))
    · rw [List.getElem?_eq_none (by omega)]; decide
  · have := List.all_eq_true.1 h4 (drget p.rules i) (by unfold drget; rw [List.getElem?_eq_getElem hi]; exact List.getElem_mem hi)
    exact this
theorem padD_get (l : List Nat) (i : Nat) : nget (padD l) i = nget l i := by
  unfold padD nget
  by_cases h : i < l.length
  · rw [List.getElem?_append_left h]
  · rw [List.getElem?_append_right (by omega), List.getElem?_eq_none (l := l) (by omega)]
    by_cases h2 : i - l.length < 8 - l.length
    · rw [List.getElem?_replicate, if_pos h2]; rfl
    · rw [List.getElem?_replicate, if_neg h2]
theorem padD_ok {p : Dp} (h : probD p = true) : Fok (padD p.doms) := ⟨padD_length (probD_parts h).2.1, fun i => by rw [padD_get]; exact (probD_parts h).2.2.2.1 i⟩
/-- Support: the error and the witness. -/
def supE (p : Dp) (rule at_ v : Int) : Int :=
  if probD p && inB rule 0 (p.rules.length - 1) && inB at_ 0 ((drget p.rules rule.toNat).vars.length - 1) then
    (if suppD (padD p.doms) (drget p.rules rule.toNat) at_.toNat v then 0 else 5)
  else 2
def supL (p : Dp) (rule at_ v : Int) : List Int :=
  if supE p rule at_ v = 0 then witD (drget p.rules rule.toNat) (drget p.rules rule.toNat).vars.length 0 (ofAt (padD p.doms) (drget p.rules rule.toNat) at_.toNat v) else []
def SupP (p : Dp) (rule at_ v : Int) (w : World) (e : Ending) (w' : World) : Prop := ∃ lv, e = .returned (.tuple #[lv, .int .i64 (supE p rule at_ v)]) ∧ w'.ownsRow w.heap.size 3 1 lv (supL p rule at_ v).length (intsV (supL p rule at_ v)) ∧ Below w.heap.size w w'
theorem SupP.bad {p : Dp} {rule at_ v : Int} {w w' : World} {c : Int} (h : supE p rule at_ v = c) (hc : c ≠ 0) (hb : Below w.heap.size w w') : SupP p rule at_ v w (.returned (.tuple #[.slice none 0 0, .int .i64 c])) w' := by
  refine ⟨_, by rw [h], ?_, hb⟩
  unfold supL
  rw [if_neg (by omega)]
  exact World.ownsRow_nil _ _ _ _
/-- A piece of code whose end is told by three values. -/
theorem wp_mid {α β γ : Type} {P : Program} {c : Code} {Q : Exit → Act → World → Prop} {a : Act} {w : World} (A : α → β → γ → Act) (R : α → β → γ → World → Prop)
    (h : Code.wp P c (onlyN fun _ a' W' => ∃ x y z, a' = A x y z ∧ R x y z W') a w) (hq : ∀ x y z W', R x y z W' → Q .normal (A x y z) W') : Code.wp P c Q a w :=
  Code.wp_mono (fun e a' w' h => by
    cases e <;> first | exact h.elim | skip
    obtain ⟨x, y, z, rfl, hr⟩ := h
    exact hq x y z w' hr) h
theorem own_touched {Bs L : Nat} {W W' : World} {base : Nat} {e : TypeId} {sz : Nat} {v : Value} {n : Nat} {xs : List Value} (h : W.ownsRow base e sz v n xs) (ht : Touched Bs L W W') (hb : ∀ g, v.ownBlock = some g → g ≠ Bs) : W'.ownsRow base e sz v n xs := by
  refine ⟨h.1, ?_⟩
  rcases h.2 with hn | ⟨g, cap, cur, rfl, h1, h2, rest⟩
  · exact .inl hn
  · exact .inr ⟨g, cap, cur, rfl, h1, ht.same g _ h2 (hb g rfl) (.inr rfl), rest⟩
/-- What Support's loop keeps: the rule's block, the slice of domains and its row, the numbers found. -/
structure SJ (r : Dr) (rvs : Array Value) (q1 qb qo base g lc : Nat) (ov : Value) (l : List Nat) (xs : List Int) (V : World) : Prop where
  k1 : V.heap[q1]? = some (.cells rvs 69 (0, 0))
  kq : V.heap[qb]? = some (.cells #[.slice (some ⟨g, 0, none⟩) r.vars.length lc] 22 (0, 0))
  ko : V.heap[qo]? = some (.cells #[ov] 39 (0, 0))
  own : V.ownsRow base 56 1 (.slice (some ⟨g, 0, none⟩) r.vars.length lc) r.vars.length (natsV l)
  out : V.ownsRow base 3 1 ov xs.length (intsV xs)
section
variable {r : Dr} {rvs : Array Value} {q1 qb qo base g lc : Nat} {ov : Value} {l : List Nat} {xs : List Int} {V V' : World}
theorem SJ.ck (h : SJ r rvs q1 qb qo base g lc ov l xs V) (hc : CK V V') : SJ r rvs q1 qb qo base g lc ov l xs V' :=
  ⟨hc.same _ _ _ _ h.k1, hc.same _ _ _ _ h.kq, hc.same _ _ _ _ h.ko, own_ck h.own hc, own_ck h.out hc⟩
theorem SJ.touched {Bs L : Nat} (h : SJ r rvs q1 qb qo base g lc ov l xs V) (ht : Touched Bs L V V') (h1 : q1 ≠ Bs) (h2 : qb ≠ Bs) (h3 : qo ≠ Bs) (hg : g ≠ Bs) (ho : ∀ k, ov.ownBlock = some k → k ≠ Bs) : SJ r rvs q1 qb qo base g lc ov l xs V' :=
  ⟨ht.same _ _ h.k1 h1 (.inr rfl), ht.same _ _ h.kq h2 (.inr rfl), ht.same _ _ h.ko h3 (.inr rfl), own_touched h.own ht (fun k hk => by simp only [Value.ownBlock, Option.some.injEq] at hk; omega), own_touched h.out ht ho⟩
theorem own_block {w : World} {base : Nat} {e : TypeId} {sz : Nat} {g n c : Nat} {k : Nat} {xs : List Value} (h : w.ownsRow base e sz (.slice (some ⟨g, 0, none⟩) n c) k xs) : ∃ cur, w.heap[g]? = some (.cells cur e (0, 0)) ∧ base ≤ g := by
  rcases h.2 with ⟨h1, _⟩ | ⟨g', cap, cur, h1, h2, h3, _⟩
  · cases h1
  · cases h1; exact ⟨cur, h3, h2⟩
/-- A block of another type than a row's. -/
theorem ne_of_types {w : World} {a b : Nat} {c c' : Array Value} {t t' : TypeId} (h : w.heap[a]? = some (.cells c t (0, 0))) (h' : w.heap[b]? = some (.cells c' t' (0, 0))) (hne : t ≠ t') : a ≠ b := by
  rintro rfl
  rw [h] at h'
  cases h'
  exact hne rfl
theorem SJ.put (h : SJ r rvs q1 qb qo base g lc ov l xs V) (i x : Nat) : SJ r rvs q1 qb qo base g lc ov (l.set i x) xs (V.setCell ⟨g, i, none⟩ (.int .u64 (x : Nat))) := by
  obtain ⟨cur, hg, _⟩ := own_block h.own
  have hst := (h.own.stored i (.int .u64 (x : Nat))).1
  rw [show (natsV l).set i (.int .u64 (x : Nat)) = natsV (l.set i x) by unfold natsV; rw [List.map_set]; rfl] at hst
  refine ⟨(Below.heap_setCell _ _ _ _ (ne_of_types h.k1 hg (by decide))).trans h.k1, (Below.heap_setCell _ _ _ _ (ne_of_types h.kq hg (by decide))).trans h.kq, (Below.heap_setCell _ _ _ _ (ne_of_types h.ko hg (by decide))).trans h.ko, hst, ?_⟩
  exact own_setF h.out hg (by decide)
end
theorem abs_calls {P : Program} {f : FuncId} {args : Array Value} {R : Ending → World → Prop} {W : World} (Rw : World → Prop) (hR : Rw W) (h : ∀ W', Rw W' → Calls P f args W' R) : Calls P f args W R := h W hR
theorem Frm.setSelf {mb : Nat} {w w' : World} (h : Frm mb w w') (o : Nat) (v : Value) : Frm mb w (w'.setCell ⟨mb, o, none⟩ v) :=
  ⟨h.os, h.tape, h.output, by simpa [World.setCell] using h.size, fun k hk hn => (Below.heap_setCell _ _ _ _ hn).trans (h.same k hk hn)⟩
theorem Frm2.below {B Bs mb : Nat} {w W0 V : World} (h : Frm2 Bs mb W0 V) (hb : Below B w W0) (h1 : B ≤ Bs) (h2 : B ≤ mb) (h3 : B ≤ W0.heap.size) : Below B w V :=
  hb.trans ⟨h.os, h.tape, h.output, h.size, fun k hk => h.same k (by omega) (by omega) (by omega)⟩
theorem own_other {w : World} {base b : Nat} {e : TypeId} {size : Nat} {v : Value} {n : Nat} {xs : List Value} {o : Obj} (h : w.ownsRow base e size v n xs) (hb : w.heap[b]? = some o) (ho : ∀ c f, o ≠ .cells c e f) : ∀ g, v.ownBlock = some g → g ≠ b := by
  intro g hg hgb
  subst hgb
  rcases h.2 with ⟨rfl, _⟩ | ⟨g', cap, cur, rfl, _, hgg, _⟩
  · simp [Value.ownBlock] at hg
  · simp only [Value.ownBlock, Option.some.injEq] at hg
    subst hg
    rw [hgg] at hb
    cases hb
    exact ho _ _ rfl
theorem SJ.app {r : Dr} {rvs : Array Value} {q1 qb qo base g lc : Nat} {ov v' : Value} {l : List Nat} {xs : List Int} {V V' : World} {x : Int} (h : SJ r rvs q1 qb qo base g lc ov l xs V) (hg : V.grownBy V' ov.ownBlock)
    (ho : V'.ownsRow base 3 1 v' (xs.length + 1) (intsV xs ++ [.int .i64 x])) : SJ r rvs q1 qb qo base g lc v' l (xs ++ [x]) (V'.setCell ⟨qo, 0, none⟩ v') := by
  obtain ⟨cur, hgg, _⟩ := own_block h.own
  have key : ∀ (k : Nat) (c : Array Value) (t : TypeId), V.heap[k]? = some (.cells c t (0, 0)) → t ≠ 3 → V'.heap[k]? = some (.cells c t (0, 0)) := fun k c t e hne =>
    (hg.block k (Array.getElem?_eq_some_iff.1 e).1 (fun hh => own_apart h.out e hne _ hh.symm rfl)).trans e
  have e1 := key _ _ _ h.k1 (by decide)
  have e2 := key _ _ _ h.kq (by decide)
  have e3 := key _ _ _ h.ko (by decide)
  have e4 := key _ _ _ hgg (by decide)
  have e5 : V'.ownsRow base 56 1 (.slice (some ⟨g, 0, none⟩) r.vars.length lc) r.vars.length (natsV l) := own_type h.own fun k c hk => key k c _ hk (by decide)
  refine ⟨(Below.heap_setCell _ _ _ _ (ne_of_types e1 e3 (by decide))).trans e1, (Below.heap_setCell _ _ _ _ (ne_of_types e2 e3 (by decide))).trans e2, set_row e3, own_setF e5 e3 (by decide), ?_⟩
  rw [show intsV (xs ++ [x]) = intsV xs ++ [.int .i64 x] by unfold intsV; rw [List.map_append]; rfl, List.length_append]
  exact own_setF ho e3 (by decide)
/-- The domains behind some values that are tried. -/
def lastD (l : List Nat) (i : Nat) (pre : List Nat) : List Nat := match pre.getLast? with | some v => l.set i (bitN v) | none => l
theorem lastD_snoc (l : List Nat) (i : Nat) (pre : List Nat) (x : Nat) : lastD l i (pre ++ [x]) = (lastD l i pre).set i (bitN x) := by
  unfold lastD
  rw [List.getLast?_concat]
  cases pre.getLast? with
  | none => rfl
  | some v => simp only [List.set_set]
theorem lastD_last (l : List Nat) (i : Nat) (pre : List Nat) (x : Nat) : lastD l i (pre ++ [x]) = l.set i (bitN x) := by
  unfold lastD
  rw [List.getLast?_concat]
theorem lastD_length (l : List Nat) (i : Nat) (pre : List Nat) : (lastD l i pre).length = l.length := by
  unfold lastD
  split <;> simp
theorem witD_hit {r : Dr} {k i : Nat} {l : List Nat} {pre : List Nat} {x : Nat} {rest : List Nat} (he : elems (nget l i) = pre ++ x :: rest) (hp : ∀ v ∈ pre, possD r (l.set i (bitN v)) = false) (hx : possD r (l.set i (bitN x)) = true) :
    witD r (k + 1) i l = (x : Int) :: witD r k (i + 1) (l.set i (bitN x)) := by
  have : (elems (nget l i)).find? (fun v => possD r (l.set i (bitN v))) = some x := by
    rw [he, List.find?_append, List.find?_eq_none.2 (fun v hv => by rw [hp v hv]; simp)]
    simp [hx]
  rw [witD, this]
theorem witD_miss {r : Dr} {k i : Nat} {l : List Nat} (hp : ∀ v ∈ elems (nget l i), possD r (l.set i (bitN v)) = false) :
    witD r (k + 1) i l = witD r k (i + 1) (lastD l i (elems (nget l i))) := by
  have : (elems (nget l i)).find? (fun v => possD r (l.set i (bitN v))) = none := List.find?_eq_none.2 (fun v hv => by rw [hp v hv]; simp)
  rw [witD, this]
  rfl
theorem bit16 {x : Nat} (h : x < 16) : bitN x < 65536 := Nat.pow_lt_pow_right (by decide) h
theorem elems16 {d x : Nat} (hd : d < 65536) (hx : x ∈ elems d) : x < 16 := by
  unfold elems at hx
  have hbit := (List.mem_filter.1 hx).2
  apply Decidable.byContradiction
  intro hc
  have h6 := Nat.testBit_lt_two_pow (Nat.lt_of_lt_of_le (show d < 2 ^ 16 from hd) (Nat.pow_le_pow_right (by decide) (show 16 ≤ x by omega)))
  rw [hbit] at h6; cases h6
theorem lastD_lt {l : List Nat} {i : Nat} (hl : ∀ j, nget l j < 65536) {pre : List Nat} (hp : ∀ v ∈ pre, v < 16) (j : Nat) : nget (lastD l i pre) j < 65536 := by
  unfold lastD
  split
  · rename_i v hv
    rw [nget_set]
    split
    · exact bit16 (hp v (List.mem_of_getLast? hv))
    · exact hl j
  · exact hl j
set_option maxRecDepth 100000 in
theorem sup_frame_all (t : Array Value) (h : t.size = 88) : t = #[t.getD 0 undef, t.getD 1 undef, t.getD 2 undef, t.getD 3 undef, t.getD 4 undef, t.getD 5 undef, t.getD 6 undef, t.getD 7 undef, t.getD 8 undef, t.getD 9 undef, t.getD 10 undef, t.getD 11 undef, t.getD 12 undef, t.getD 13 undef, t.getD 14 undef, t.getD 15 undef, t.getD 16 undef, t.getD 17 undef, t.getD 18 undef, t.getD 19 undef, t.getD 20 undef, t.getD 21 undef, t.getD 22 undef, t.getD 23 undef, t.getD 24 undef, t.getD 25 undef, t.getD 26 undef, t.getD 27 undef, t.getD 28 undef, t.getD 29 undef, t.getD 30 undef, t.getD 31 undef, t.getD 32 undef, t.getD 33 undef, t.getD 34 undef, t.getD 35 undef, t.getD 36 undef, t.getD 37 undef, t.getD 38 undef, t.getD 39 undef, t.getD 40 undef, t.getD 41 undef, t.getD 42 undef, t.getD 43 undef, t.getD 44 undef, t.getD 45 undef, t.getD 46 undef, t.getD 47 undef, t.getD 48 undef, t.getD 49 undef, t.getD 50 undef, t.getD 51 undef, t.getD 52 undef, t.getD 53 undef, t.getD 54 undef, t.getD 55 undef, t.getD 56 undef, t.getD 57 undef, t.getD 58 undef, t.getD 59 undef, t.getD 60 undef, t.getD 61 undef, t.getD 62 undef, t.getD 63 undef, t.getD 64 undef, t.getD 65 undef, t.getD 66 undef, t.getD 67 undef, t.getD 68 undef, t.getD 69 undef, t.getD 70 undef, t.getD 71 undef, t.getD 72 undef, t.getD 73 undef, t.getD 74 undef, t.getD 75 undef, t.getD 76 undef, t.getD 77 undef, t.getD 78 undef, t.getD 79 undef, t.getD 80 undef, t.getD 81 undef, t.getD 82 undef, t.getD 83 undef, t.getD 84 undef, t.getD 85 undef, t.getD 86 undef, t.getD 87 undef] := (eq_range t 88 h).trans rfl
theorem sup_frame (t : Array Value) (h : t.size = 88) {v10 v11 v13 v64 v65 v66 : Value} (h10 : t.getD 10 undef = v10) (h11 : t.getD 11 undef = v11) (h13 : t.getD 13 undef = v13) (h64 : t.getD 64 undef = v64) (h65 : t.getD 65 undef = v65) (h66 : t.getD 66 undef = v66) : ∃ f : Nat → Value, t = #[f 0, f 1, f 2, f 3, f 4, f 5, f 6, f 7, f 8, f 9, v10, v11, f 12, v13, f 14, f 15, f 16, f 17, f 18, f 19, f 20, f 21, f 22, f 23, f 24, f 25, f 26, f 27, f 28, f 29, f 30, f 31, f 32, f 33, f 34, f 35, f 36, f 37, f 38, f 39, f 40, f 41, f 42, f 43, f 44, f 45, f 46, f 47, f 48, f 49, f 50, f 51, f 52, f 53, f 54, f 55, f 56, f 57, f 58, f 59, f 60, f 61, f 62, f 63, v64, v65, v66, f 67, f 68, f 69, f 70, f 71, f 72, f 73, f 74, f 75, f 76, f 77, f 78, f 79, f 80, f 81, f 82, f 83, f 84, f 85, f 86, f 87] := by
  refine ⟨fun i => t.getD i undef, ?_⟩
  have := sup_frame_all t h
  rw [h10, h11, h13, h64, h65, h66] at this
  exact this
end Go.Proofs.YtdmmegmkdhinjaaGreatDoor
