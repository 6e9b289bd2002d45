/- Arguments read as data: from the form's readings to the memory predicates of the walks. -/
import Derived.Deep.Slices
import Derived.Deep.Fields
import Derived.ChangeSame
import Derived.SizedLaws
import Derived.Lib.SmallJoins
import Derived.Test.YtdmmegmkdhinjaaGreatDoorBD
namespace Go.Proofs.YtdmmegmkdhinjaaGreatDoor
open Go Go.RowKit Go.ChangeShapes Go.WideShapes Go.Deep
section
variable {H : Type} {enc : TypeId × Value → H} {P : Program} {w : World} {held : Bool}
/-- All that a datum weighs is within the form's reach. -/
def Fits (P : Program) (t : TypeId) (d : DataW H) : Prop := ∀ n ∈ d.weights P t, n ≤ reachBytes
theorem Fits.each {ts : List TypeId} {ds : List (DataW H)} (h : ∀ n ∈ DataW.weightsEach P ts ds, n ≤ reachBytes) {j : Nat} {t : TypeId} {d : DataW H} (ht : ts[j]? = some t) (hd : ds[j]? = some d) : Fits P t d :=
  fun n hn => h n (DataW.weights_mem_each ht hd n hn)
theorem mem_weightsAll {e : TypeId} : ∀ {l : List (DataW H)} {d : DataW H}, d ∈ l → ∀ n ∈ d.weights P e, n ∈ DataW.weightsAll P e l
  | d' :: r, d, hd, n, hn => by
    simp only [DataW.weightsAll, List.mem_append]
    rcases List.mem_cons.1 hd with rfl | h
    · exact .inl hn
    · exact .inr (mem_weightsAll h n hn)
theorem Fits.agg {t : TypeId} {fs : Array Field} {ds : List (DataW H)} (ht : P.underlying t = some (.struct fs)) (h : Fits P t (.agg ds)) {j : Nat} {f : Field} {d : DataW H} (hf : fs[j]? = some f) (hd : ds[j]? = some d) : Fits P f.type d := by
  refine Fits.each (ts := fs.toList.map (·.type)) (ds := ds) (fun n hn => h n ?_) (j := j) ?_ hd
  · simpa [DataW.weights, ht] using hn
  · simp [hf]
theorem Fits.elem {t e : TypeId} {ds sp : List (DataW H)} (ht : P.underlying t = some (.slice e)) (h : Fits P t (.slice ds sp)) {d : DataW H} (hd : d ∈ ds) : Fits P e d := fun n hn => h n (by
  simp only [DataW.weights, ht, List.mem_cons, List.mem_append]
  exact .inr (.inl (mem_weightsAll hd n hn)))
theorem Fits.len {t e : TypeId} {ds sp : List (DataW H)} (ht : P.underlying t = some (.slice e)) (h : Fits P t (.slice ds sp)) (hb : 0 < P.bytesOf e) : ds.length ≤ 140737488355328 := by
  have h1 := h ((ds.length + sp.length) * P.bytesOf e) (by simp [DataW.weights, ht])
  have h2 : ds.length * 1 ≤ (ds.length + sp.length) * P.bytesOf e := Nat.mul_le_mul (by omega) hb
  unfold reachBytes at h1
  omega
/-- The value v reads as the datum d. -/
def ReadsAs (enc : TypeId × Value → H) (P : Program) (w : World) (held : Bool) (t : TypeId) (v : Value) (d : DataW H) : Prop := ∃ m pl, DataW.trod enc P w 0 (fun _ => true) held m t [v] = some (d, pl)
theorem lt_of_cell {b o : Nat} {v : Value} (h : w.cell? ⟨b, o, none⟩ = some v) : b < w.heap.size := by
  apply Nat.lt_of_not_le
  intro hge
  unfold World.cell? at h
  simp [Array.getElem?_eq_none hge] at h
theorem row_of_cells {a : Addr} {n cap k : Nat} (hk : 0 < k) (hn : n ≤ 140737488355328) (hle : n ≤ cap) (hm : cap ≤ maxLen) (h : ∀ i, i < n → ∀ j, j < k → ∃ v, w.cell? (a.add (i * k + j)) = some v) :
    Row w w.heap.size k (.slice (some a) n cap) n (fun i => (w.cell? (a.add i)).getD undef) := by
  refine ⟨hn, some a, cap, rfl, hle, hm, fun h0 => ?_⟩
  obtain ⟨b, off, spot⟩ := a
  obtain ⟨v0, h00⟩ := h 0 h0 0 hk
  rw [Nat.zero_mul] at h00
  have hspot : spot = none := by simpa [Addr.add] using World.cell?_spot h00
  subst hspot
  have hb : b < w.heap.size := by
    have : w.cell? ⟨b, off + 0, none⟩ = some v0 := by rw [← add_plain]; exact h00
    exact lt_of_cell this
  refine ⟨b, off, rfl, hb, fun i hi => ?_⟩
  have hq : i / k < n := Nat.div_lt_of_lt_mul (by rw [Nat.mul_comm]; exact hi)
  obtain ⟨v, hv⟩ := h (i / k) hq (i % k) (Nat.mod_lt _ hk)
  rw [Nat.div_add_mod'] at hv
  show w.cell? ⟨b, off + i, none⟩ = some ((w.cell? ((⟨b, off, none⟩ : Addr).add i)).getD undef)
  rw [hv, ← add_plain, hv]; rfl
theorem row_nil (k : Nat) (c : Nat → Value) : Row w w.heap.size k (.slice none 0 0) 0 c := ⟨Nat.zero_le _, none, 0, rfl, Nat.le_refl _, Nat.zero_le _, fun h => absurd h (Nat.lt_irrefl _)⟩
/-- A slice of structs of one-cell fields. -/
theorem open_row {t e : TypeId} {fs : Array Field} {v : Value} {d : DataW H} (ht : P.underlying t = some (.slice e)) (he : P.underlying e = some (.struct fs)) (hone : oneCellFields P fs = true) (hC : P.cellsOf e = fs.size) (hk : 0 < fs.size)
    (hb : 0 < P.bytesOf e) (h : ReadsAs enc P w held t v d) (hw : Fits P t d) :
    ∃ (n : Nat) (c : Nat → Value), Row w w.heap.size fs.size v n c ∧ ∀ i, i < n → ∀ j f, fs[j]? = some f → ∃ y, ReadsAs enc P w held f.type (c (i * fs.size + j)) y ∧ Fits P f.type y := by
  obtain ⟨m, pl, h⟩ := h
  rcases open_slice ht h with ⟨h0, _⟩ | ⟨a, len, cap, m', n', D, Pl, hcs, _, hl, hm, hmm, hx, hi⟩
  · simp only [List.cons.injEq, and_true] at h0
    subst h0
    exact ⟨0, fun _ => undef, row_nil _ _, fun i hi => absurd hi (Nat.not_lt_zero _)⟩
  · simp only [List.cons.injEq, and_true] at hcs
    subst hcs
    simp only [Prod.mk.injEq] at hx
    obtain ⟨rfl, _⟩ := hx
    have hlen := hw.len ht hb
    simp only [List.length_map, List.length_range] at hlen
    simp only [if_true] at hmm
    have key : ∀ i, i < len → ∃ ys : List (DataW H × List MemPlace), D i = .agg (ys.map (·.1)) ∧ ∀ j f, fs[j]? = some f → ∃ v y nn, w.cell? (a.add (i * fs.size + j)) = some v ∧ ys[j]? = some y ∧ DataW.trod enc P w 0 (fun _ => true) held nn f.type [v] = some y := by
      intro i hil
      obtain ⟨cs', hc, ht'⟩ := hi i (by omega)
      rw [hC] at hc
      obtain ⟨ys, nn, _, hy, _, hyl, hf⟩ := DataW.trod_struct he ht'
      obtain ⟨_, hcl, hat⟩ := World.cells?_some hc
      simp only [Prod.mk.injEq] at hy
      refine ⟨ys, hy.1, fun j f hj => ?_⟩
      obtain ⟨ho, hk1⟩ := hone_of hone j f hj
      have hjl : j < fs.size := (Array.getElem?_eq_some_iff.1 hj).1
      have h1 := hf j f hj
      have hone' : (cs'.drop j).take 1 = [cs'[j]'(by omega)] := by rw [List.drop_eq_getElem_cons (by omega)]; rfl
      rw [ho, hk1, hone'] at h1
      have hys : ys[j]? = some (ys[j]'(by omega)) := List.getElem?_eq_getElem (by omega)
      refine ⟨_, _, nn, ?_, hys, h1.trans hys⟩
      rw [← Go.Deep.add_add, hat j hjl, List.getElem?_eq_getElem (by omega)]
    refine ⟨len, _, row_of_cells hk hlen hl hm (fun i hil j hj => ?_), fun i hil j f hj => ?_⟩
    · obtain ⟨ys, _, hf⟩ := key i hil
      obtain ⟨v, _, _, h1, _⟩ := hf j fs[j] (Array.getElem?_eq_getElem hj)
      exact ⟨v, h1⟩
    · obtain ⟨ys, hD, hf⟩ := key i hil
      obtain ⟨v, y, nn, h1, h2, h3⟩ := hf j f hj
      refine ⟨y.1, ?_, ?_⟩
      · rw [h1]; exact ⟨nn, y.2, h3⟩
      · have hfi : Fits P e (D i) := hw.elem ht (List.mem_map.2 ⟨i, List.mem_range.2 hil, rfl⟩)
        rw [hD] at hfi
        exact hfi.agg he hj (by rw [List.getElem?_map, h2]; rfl)
/-- A slice of one-cell elements. -/
theorem open_row1 {t e : TypeId} {v : Value} {d : DataW H} (ht : P.underlying t = some (.slice e)) (hC : P.cellsOf e = 1) (hb : 0 < P.bytesOf e) (h : ReadsAs enc P w held t v d) (hw : Fits P t d) :
    ∃ (n : Nat) (c : Nat → Value), Row w w.heap.size 1 v n c ∧ ∀ i, i < n → ∃ y, ReadsAs enc P w held e (c i) y ∧ Fits P e y := by
  obtain ⟨m, pl, h⟩ := h
  rcases open_slice1 ht hC h with ⟨h0, _⟩ | ⟨a, len, cap, m', n', V, D, Pl, hcs, _, hl, hm, hmm, hx, hi⟩
  · simp only [List.cons.injEq, and_true] at h0
    subst h0
    exact ⟨0, fun _ => undef, row_nil _ _, fun i hi => absurd hi (Nat.not_lt_zero _)⟩
  · simp only [List.cons.injEq, and_true] at hcs
    subst hcs
    simp only [Prod.mk.injEq] at hx
    obtain ⟨rfl, _⟩ := hx
    have hlen := hw.len ht hb
    simp only [List.length_map, List.length_range] at hlen
    simp only [if_true] at hmm
    refine ⟨len, _, row_of_cells (by decide) hlen hl hm (fun i hil j hj => ?_), fun i hil => ?_⟩
    · have : i * 1 + j = i := by omega
      rw [this]; exact ⟨V i, (hi i (by omega)).1⟩
    · refine ⟨D i, ?_, hw.elem ht (List.mem_map.2 ⟨i, List.mem_range.2 hil, rfl⟩)⟩
      rw [(hi i (by omega)).1]
      exact ⟨n', Pl i, (hi i (by omega)).2⟩
theorem reads_int {t : TypeId} {k : IntKind} {v : Value} {d : DataW H} (ht : P.underlying t = some (.int k)) (h : ReadsAs enc P w held t v d) : ∃ n, v = .int k n ∧ (Lit.int k n).wf = true := by
  obtain ⟨m, pl, h⟩ := h
  obtain ⟨n, h1, _, h3⟩ := DataW.trod_int ht h
  simp only [List.cons.injEq, and_true] at h1
  exact ⟨n, h1, h3⟩
theorem reads_bool {t : TypeId} {v : Value} {d : DataW H} (ht : P.underlying t = some .bool) (h : ReadsAs enc P w held t v d) : ∃ b, v = .bool b := by
  obtain ⟨m, pl, h⟩ := h
  obtain ⟨n, h1, _⟩ := DataW.trod_bool ht h
  simp only [List.cons.injEq, and_true] at h1
  exact ⟨n, h1⟩
theorem reads_u64 {t : TypeId} {v : Value} {d : DataW H} (ht : P.underlying t = some (.int .u64)) (h : ReadsAs enc P w held t v d) : ∃ n : Nat, v = .int .u64 (n : Nat) ∧ U64 n := by
  obtain ⟨n, h1, h2⟩ := reads_int ht h
  simp only [Lit.wf, Bool.and_eq_true, decide_eq_true_eq] at h2
  have h3 : 0 ≤ n ∧ n < 18446744073709551616 := by
    have e1 : IntKind.u64.min = 0 := rfl
    have e2 : IntKind.u64.max = 18446744073709551615 := rfl
    omega
  exact ⟨n.toNat, by rw [h1, Int.toNat_of_nonneg h3.1], by unfold U64; omega⟩
end
section
variable {H : Type} {enc : TypeId × Value → H} {w : World} {held : Bool}
theorem Tryz.cellsInt : Tryz.prog.cellsOf 3 = 1 := by kernel_rfl
theorem Tryz.bytesInt : Tryz.prog.bytesOf 3 = 8 := by kernel_rfl
theorem Tryz.cellsU64 : Tryz.prog.cellsOf 56 = 1 := by kernel_rfl
theorem Tryz.bytesU64 : Tryz.prog.bytesOf 56 = 8 := by kernel_rfl
theorem ints_of {v : Value} {d : DataW H} (h : ReadsAs enc Tryz.prog w held 39 v d) (hw : Fits Tryz.prog 39 d) : ∃ xs, Ints w w.heap.size v xs := by
  obtain ⟨n, c, hr, hc⟩ := open_row1 Tryz.underlying39 Tryz.cellsInt (by rw [Tryz.bytesInt]; decide) h hw
  obtain ⟨f, hf⟩ := choose_lt (α := Int) (p := fun i z => c i = .int .i64 z) (fun i hi => by
    obtain ⟨y, hy, _⟩ := hc i hi
    obtain ⟨z, hz, _⟩ := reads_int Tryz.underlying3 hy
    exact ⟨z, hz⟩)
  refine ⟨(List.range n).map f, ?_⟩
  unfold Ints
  rw [List.length_map, List.length_range]
  refine hr.congr fun i hi => ?_
  rw [hf i (by omega)]
  simp [iget, show i < n by omega]
theorem us_of {v : Value} {d : DataW H} (h : ReadsAs enc Tryz.prog w held 22 v d) (hw : Fits Tryz.prog 22 d) : ∃ xs : List Nat, Us w w.heap.size v xs ∧ ∀ s ∈ xs, U64 s := by
  obtain ⟨n, c, hr, hc⟩ := open_row1 Tryz.underlying22 Tryz.cellsU64 (by rw [Tryz.bytesU64]; decide) h hw
  obtain ⟨f, hf⟩ := choose_lt (α := Nat) (p := fun i z => c i = .int .u64 (z : Nat) ∧ U64 z) (fun i hi => by
    obtain ⟨y, hy, _⟩ := hc i hi
    exact reads_u64 Tryz.underlying56 hy)
  refine ⟨(List.range n).map f, ?_, fun s hs => ?_⟩
  · unfold Us
    rw [List.length_map, List.length_range]
    refine hr.congr fun i hi => ?_
    rw [(hf i (by omega)).1]
    simp [nget, show i < n by omega]
  · obtain ⟨i, hi, rfl⟩ := List.mem_map.1 hs
    exact (hf i (List.mem_range.1 hi)).2
end
end Go.Proofs.YtdmmegmkdhinjaaGreatDoor
