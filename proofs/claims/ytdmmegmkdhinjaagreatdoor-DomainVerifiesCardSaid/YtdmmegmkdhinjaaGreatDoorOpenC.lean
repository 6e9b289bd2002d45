/- Cuts read as data. -/
import Derived.Test.YtdmmegmkdhinjaaGreatDoorOpenB
import Derived.Test.YtdmmegmkdhinjaaGreatDoorBD
namespace Go.Proofs.YtdmmegmkdhinjaaGreatDoor
open Go Go.RowKit Go.ChangeShapes Go.WideShapes Go.Deep
section
variable {H : Type} {enc : TypeId × Value → H} {w : World} {held : Bool}
theorem Tryz.cellsDCut : Tryz.prog.cellsOf 73 = 4 := by kernel_rfl
theorem Tryz.bytesDCut : 0 < Tryz.prog.bytesOf 73 := by rw [show Tryz.prog.bytesOf 73 = 48 by kernel_rfl]; decide
theorem cts_of {v : Value} {d : DataW H} (h : ReadsAs enc Tryz.prog w held 28 v d) (hw : Fits Tryz.prog 28 d) : ∃ xs : List Cut, Cts w w.heap.size v xs := by
  obtain ⟨n, c, hr, hc⟩ := open_row Tryz.underlying28 Tryz.underlying73 (by kernel_rfl) Tryz.cellsDCut (by decide) Tryz.bytesDCut h hw
  obtain ⟨f, hf⟩ := choose_lt (α := Cut) (p := fun i z => c (i * 4) = .int .i64 z.var ∧ c (i * 4 + 1) = .int .i64 z.value ∧ c (i * 4 + 2) = .int .i64 z.rule ∧ Ints w w.heap.size (c (i * 4 + 3)) z.why) (fun i hi => by
    obtain ⟨y0, hy0, _⟩ := hc i hi 0 _ rfl
    obtain ⟨y1, hy1, _⟩ := hc i hi 1 _ rfl
    obtain ⟨y2, hy2, _⟩ := hc i hi 2 _ rfl
    obtain ⟨y3, hy3, hw3⟩ := hc i hi 3 _ rfl
    obtain ⟨a0, h0, _⟩ := reads_int Tryz.underlying3 hy0
    obtain ⟨a1, h1, _⟩ := reads_int Tryz.underlying3 hy1
    obtain ⟨a2, h2, _⟩ := reads_int Tryz.underlying3 hy2
    obtain ⟨a3, h3⟩ := ints_of hy3 hw3
    exact ⟨⟨a0, a1, a2, a3⟩, h0, h1, h2, h3⟩)
  refine ⟨(List.range n).map f, c, ?_, fun i hi => ?_⟩
  · rw [List.length_map, List.length_range]; exact hr
  · rw [List.length_map, List.length_range] at hi
    have : cget ((List.range n).map f) i = f i := by simp [cget, hi]
    rw [this]
    exact hf i hi
set_option maxRecDepth 100000 in
theorem cts_arg {r : Reach} {b0 : Nat} {v : Value} {d : DataW H} {pl : List MemPlace} (hv : Value.okWide Tryz.prog w r b0 28 v) (h : DataW.Trod enc Tryz.prog w 0 (fun _ => true) held 28 v d pl) (hw : Fits Tryz.prog 28 d) : ∃ xs : List Cut, Cts w w.heap.size v xs := by
  obtain ⟨a, n, c, rfl⟩ := okWide_slice Tryz.underlying28 hv
  exact cts_of (reads_of h rfl) hw
end
end Go.Proofs.YtdmmegmkdhinjaaGreatDoor
