/- A row of bytes as an argument. -/
import Derived.Test.YtdmmegmkdhinjaaDoorLawO
import Derived.Test.YtdmmegmkdhinjaaDoorOpenB
namespace Go.Proofs.YtdmmegmkdhinjaaDoor
open Go Go.RowKit Go.ChangeShapes Go.WideShapes Go.Deep

section
variable {H : Type} {enc : TypeId × Value → H} {w : World} {held : Bool}
theorem reads_u8 {P : Program} {t : TypeId} {v : Value} {d : DataW H} (ht : P.underlying t = some (.int .u8)) (h : ReadsAs enc P w held t v d) : ∃ n : Nat, v = .int .u8 (n : Nat) ∧ n < 256 := by
  obtain ⟨n, h1, h2⟩ := reads_int ht h
  simp only [Lit.wf, Bool.and_eq_true, decide_eq_true_eq] at h2
  have h3 : 0 ≤ n ∧ n < 256 := by
    have e1 : IntKind.u8.min = 0 := rfl
    have e2 : IntKind.u8.max = 255 := rfl
    omega
  exact ⟨n.toNat, by rw [h1, Int.toNat_of_nonneg h3.1], by omega⟩
theorem Tryd.cellsU8 : Tryd.prog.cellsOf 5 = 1 := by kernel_rfl
theorem Tryd.bytesU8 : Tryd.prog.bytesOf 5 = 1 := by kernel_rfl
theorem u8s_of {v : Value} {d : DataW H} (h : ReadsAs enc Tryd.prog w held 52 v d) (hw : Fits Tryd.prog 52 d) : ∃ xs : List Nat, U8s w w.heap.size v xs := by
  obtain ⟨n, c, hr, hc⟩ := open_row1 Tryd.underlying52 Tryd.cellsU8 (by rw [Tryd.bytesU8]; decide) h hw
  obtain ⟨f, hf⟩ := choose_lt (α := Nat) (p := fun i z => c i = .int .u8 (z : Nat) ∧ z < 256) (fun i hi => by
    obtain ⟨y, hy, _⟩ := hc i hi
    exact reads_u8 Tryd.underlying5 hy)
  refine ⟨(List.range n).map f, ?_, fun i => ?_⟩
  · rw [List.length_map, List.length_range]
    refine hr.congr fun i hi => ?_
    rw [(hf i (by omega)).1]
    simp [nget, show i < n by omega]
  · by_cases hi : i < n
    · have : nget ((List.range n).map f) i = f i := by simp [nget, hi]
      rw [this]; exact (hf i hi).2
    · rw [nget_len (by rw [List.length_map, List.length_range]; omega)]; omega
set_option maxRecDepth 100000 in
theorem u8s_arg {r : Reach} {b0 : Nat} {v : Value} {d : DataW H} {pl : List MemPlace} (hv : Value.okWide Tryd.prog w r b0 52 v) (h : DataW.Trod enc Tryd.prog w 0 (fun _ => true) held 52 v d pl) (hw : Fits Tryd.prog 52 d) : ∃ xs : List Nat, U8s w w.heap.size v xs := by
  obtain ⟨a, n, c, rfl⟩ := okWide_slice Tryd.underlying52 hv
  exact u8s_of (reads_of h rfl) hw
end
end Go.Proofs.YtdmmegmkdhinjaaDoor
