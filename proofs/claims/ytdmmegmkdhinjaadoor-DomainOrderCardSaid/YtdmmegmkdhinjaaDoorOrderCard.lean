/- For every problem and every row of bytes the law DomainOrder of layer 14 answers true, and its arguments read afterwards as they read before; the one listed table of package math/bits is tied to the program's text. No further condition. -/
import Derived.Test.YtdmmegmkdhinjaaDoorLawO
import Derived.Test.YtdmmegmkdhinjaaDoorOpenB
import Derived.Test.YtdmmegmkdhinjaaDoorTie
import Derived.Test.YtdmmegmkdhinjaaDoorCards
import Derived.SevenTiedAt
namespace Go.Proofs.YtdmmegmkdhinjaaDoor
open Go Go.RowKit Go.ChangeShapes Go.WideShapes Go.Deep

section
variable {H : Type} {enc : TypeId × Value → H} {w : World} {held : Bool}
theorem reads_u8 {P : Program} {t : TypeId} {v : Value} {d : DataW H} (ht : P.underlying t = some (.int .u8)) (h : ReadsAs enc P w held t v d) : ∃ n : Nat, v = .int .u8 (n : Nat) ∧ n < 256 := by
  obtain ⟨n, h1, h2⟩ := reads_int ht h
  simp only [Lit.wf, Bool.and_eq_true, decide_eq_true_eq] at h2
  have h3 : 0 ≤ n ∧ n < 256 := by
    have e1 : IntKind.u8.min = 0 := rfl
    have e2 : IntKind.u8.max = 255 := rfl
    omega
  exact ⟨n.toNat, by rw [h1, Int.toNat_of_nonneg h3.1], by omega⟩
theorem Tryd.cellsU8 : Tryd.prog.cellsOf 5 = 1 := by kernel_rfl
theorem Tryd.bytesU8 : Tryd.prog.bytesOf 5 = 1 := by kernel_rfl
theorem u8s_of {v : Value} {d : DataW H} (h : ReadsAs enc Tryd.prog w held 52 v d) (hw : Fits Tryd.prog 52 d) : ∃ xs : List Nat, U8s w w.heap.size v xs := by
  obtain ⟨n, c, hr, hc⟩ := open_row1 Tryd.underlying52 Tryd.cellsU8 (by rw [Tryd.bytesU8]; decide) h hw
  obtain ⟨f, hf⟩ := choose_lt (α := Nat) (p := fun i z => c i = .int .u8 (z : Nat) ∧ z < 256) (fun i hi => by
    obtain ⟨y, hy, _⟩ := hc i hi
    exact reads_u8 Tryd.underlying5 hy)
  refine ⟨(List.range n).map f, ?_, fun i => ?_⟩
  · rw [List.length_map, List.length_range]
    refine hr.congr fun i hi => ?_
    rw [(hf i (by omega)).1]
    simp [nget, show i < n by omega]
  · by_cases hi : i < n
    · have : nget ((List.range n).map f) i = f i := by simp [nget, hi]
      rw [this]; exact (hf i hi).2
    · rw [nget_len (by rw [List.length_map, List.length_range]; omega)]; omega
set_option maxRecDepth 100000 in
theorem u8s_arg {r : Reach} {b0 : Nat} {v : Value} {d : DataW H} {pl : List MemPlace} (hv : Value.okWide Tryd.prog w r b0 52 v) (h : DataW.Trod enc Tryd.prog w 0 (fun _ => true) held 52 v d pl) (hw : Fits Tryd.prog 52 d) : ∃ xs : List Nat, U8s w w.heap.size v xs := by
  obtain ⟨a, n, c, rfl⟩ := okWide_slice Tryd.underlying52 hv
  exact u8s_of (reads_of h rfl) hw
end
set_option maxRecDepth 100000 in
theorem domainOrder_walk {H : Type} {enc : TypeId × Value → H} (W : World) (base : Nat) (v0 v1 : Value) (d0 d1 : DataW H) (p0 p1 : List MemPlace) (k0 : Value.okWide Tryd.prog W .any base 25 v0) (k1 : Value.okWide Tryd.prog W .any base 52 v1)
    (t0 : DataW.Trod enc Tryd.prog W 0 (fun _ => true) true 25 v0 d0 p0) (t1 : DataW.Trod enc Tryd.prog W 0 (fun _ => true) true 52 v1 d1 p1) (f0 : Fits Tryd.prog 25 d0) (f1 : Fits Tryd.prog 52 d1) (hT : Tab W) (h0 : 0 < W.heap.size) :
    Gives Tryd.prog 8 #[v0, v1] W (.bool true) := by
  obtain ⟨dv, rv, p, rfl, hd, hr, hu⟩ := dprob_of k0 t0 f0
  obtain ⟨xs, hx⟩ := u8s_arg k1 t1 f1
  exact domainOrder_any p xs dv rv v1 W hd hr hx h0 (Nat.le_refl _) hu hT
set_option maxRecDepth 100000 in
theorem domainOrder_row : Rows.DomainOrderSaid :=
  OpenClaim.holds_of_wide 8 Tryd.f8 rfl rfl rfl rfl rfl rfl rfl ⟨rfl, rfl, rfl, rfl, rfl⟩ rfl rfl rfl rfl rfl (by kernel_rfl) Tryd.func8 (by kernel_rfl)
    (of_decide_eq_true (by kernel_rfl)) (by unfold Func.isWrapper; rw [if_neg (of_decide_eq_false (by kernel_rfl))]; exact ⟨rfl, rfl⟩)
    (fun os started H enc _ => law_lift (s := Rows.domainOrderSpec) (by kernel_rfl) Tryd.func8 rfl (by kernel_rfl) (by kernel_rfl) (by kernel_rfl)
      (fun H ds hl => by
        match ds, hl with
        | [d1, d2], _ => rfl)
      os started H enc #[.agg #[.slice none 0 0, .slice none 0 0], .slice none 0 0] (by kernel_rfl) (by kernel_rfl) (by kernel_rfl) (World.shaped_of_RefB (by kernel_rfl) (by kernel_rfl))
      (fun W base args ds ps hval hA hw hT h0 => by
        rw [Tryd.params8] at hval hA hw
        obtain ⟨v0, v1, d0, d1, p0, p1, rfl, rfl, rfl, t0, t1⟩ := trodAll_two hA
        exact domainOrder_walk W base v0 v1 d0 d1 _ _ (hval 0 _ _ rfl rfl) (hval 1 _ _ rfl rfl) t0 t1 (Fits.each hw (j := 0) rfl rfl) (Fits.each hw (j := 1) rfl rfl) hT h0))
set_option maxRecDepth 100000 in
theorem domainOrder_card : Rows.DomainOrderCardSaid :=
  Claim7.holds_tied_plain_at .later [] [.data] true (true, "e150d8a73f83e9e5254fd62071fee29dbc98cfe7593135170ac1bbf9adfaaa09") false
    domainOrder_row (fun _ h => by cases h) (by kernel_rfl) (fun _ h => by cases h) domainOrder_row_tie rfl ⟨rfl, rfl⟩ (by kernel_rfl) rfl
    (fun f fn hf hfn => by
      obtain rfl : f = 8 := Option.some.inj ((show Tryd.prog.funcNamed "swingle/swinglelaw14.DomainOrder" = some 8 by kernel_rfl).symm.trans hf) |>.symm
      obtain rfl : fn = Tryd.f8 := (Option.some.inj (Tryd.func8.symm.trans hfn)).symm
      exact ⟨by kernel_rfl, fun j t ht => by
        rw [Tryd.params8] at ht
        have hm : t ∈ [25, 52] := by simpa using Array.mem_of_getElem? ht
        have hall : ([25, 52].all fun u => !Tryd.prog.wantsStandIn u) = true := by kernel_rfl
        exact (show Tryd.prog.wantsStandIn t = false by simpa using List.all_eq_true.1 hall t hm)⟩)
    (by kernel_rfl)
#print axioms domainOrder_card
end Go.Proofs.YtdmmegmkdhinjaaDoor
