/- For every problem and every number the law SetsAll of layer 16 answers true, and its arguments read afterwards as they read before; the one listed table of package math/bits is tied to the program's text. No further condition. -/
import Derived.Test.YtilbbnjfaoldoaaGreatDoorLawI
import Derived.Test.YtilbbnjfaoldoaaGreatDoorOpenB
import Derived.Test.YtilbbnjfaoldoaaGreatDoorTie
import Derived.Test.YtilbbnjfaoldoaaGreatDoorCards
import Derived.SevenTiedAt
namespace Go.Proofs.YtilbbnjfaoldoaaGreatDoor
open Go Go.RowKit Go.ChangeShapes Go.WideShapes Go.Deep

set_option maxRecDepth 100000 in
theorem setsAll_walk {H : Type} {enc : TypeId × Value → H} (W : World) (base : Nat) (v0 v1 : Value) (d0 d1 : DataW H) (p0 p1 : List MemPlace) (k0 : Value.okWide Tryz.prog W .any base 25 v0) (k1 : Value.okWide Tryz.prog W .any base 5 v1)
    (t0 : DataW.Trod enc Tryz.prog W 0 (fun _ => true) true 25 v0 d0 p0) (t1 : DataW.Trod enc Tryz.prog W 0 (fun _ => true) true 5 v1 d1 p1) (f0 : Fits Tryz.prog 25 d0) (_f1 : Fits Tryz.prog 5 d1) (hT : Tab W) (h0 : 0 < W.heap.size) :
    Gives Tryz.prog 3 #[v0, v1] W (.bool true) := by
  obtain ⟨bv, rv, p, rfl, hb, hr, hu⟩ := prob_of k0 t0 f0
  obtain ⟨n, rfl⟩ := okWide_int Tryz.underlying5 k1
  obtain ⟨m, hm, hwf⟩ := reads_int Tryz.underlying5 (reads_of t1 rfl)
  cases hm
  simp only [Lit.wf, Bool.and_eq_true, decide_eq_true_eq] at hwf
  have h3 : 0 ≤ n ∧ n < 256 := by
    have e1 : IntKind.u8.min = 0 := rfl
    have e2 : IntKind.u8.max = 255 := rfl
    omega
  obtain ⟨k, rfl⟩ : ∃ k : Nat, n = k := ⟨n.toNat, by omega⟩
  exact setsAll_any p k (by omega) bv rv W hb hr h0 (Nat.le_refl _) hu hT
set_option maxRecDepth 100000 in
theorem setsAll_row : Rows.SetsAllSaid :=
  OpenClaim.holds_of_wide 3 Tryz.f3 rfl rfl rfl rfl rfl rfl rfl ⟨rfl, rfl, rfl, rfl, rfl⟩ rfl rfl rfl rfl rfl (by kernel_rfl) Tryz.func3 (by kernel_rfl)
    (of_decide_eq_true (by kernel_rfl)) (by unfold Func.isWrapper; rw [if_neg (of_decide_eq_false (by kernel_rfl))]; exact ⟨rfl, rfl⟩)
    (fun os started H enc _ => law_lift (s := Rows.setsAllSpec) (by kernel_rfl) Tryz.func3 rfl (by kernel_rfl) (by kernel_rfl) (by kernel_rfl)
      (fun H ds hl => by
        match ds, hl with
        | [d1, d2], _ => rfl)
      os started H enc #[.agg #[.slice none 0 0, .slice none 0 0], .int .u8 0] (by kernel_rfl) (by kernel_rfl) (by kernel_rfl) (World.shaped_of_RefB (by kernel_rfl) (by kernel_rfl))
      (fun W base args ds ps hval hA hw hT h0 => by
        rw [Tryz.params3] at hval hA hw
        obtain ⟨v0, v1, d0, d1, p0, p1, rfl, rfl, rfl, t0, t1⟩ := trodAll_two hA
        exact setsAll_walk W base v0 v1 d0 d1 p0 p1 (hval 0 _ _ rfl rfl) (hval 1 _ _ rfl rfl) t0 t1 (Fits.each hw (j := 0) rfl rfl) (Fits.each hw (j := 1) rfl rfl) hT h0))
set_option maxRecDepth 100000 in
theorem setsAll_card : Rows.SetsAllCardSaid :=
  Claim7.holds_tied_plain_at .later [] [.data] true (true, "7c7dfa548f7ee66d9257819adf084e75c509e71c62778b854b60c6028a752d64") true
    setsAll_row (fun _ h => by cases h) (by kernel_rfl) (fun _ h => by cases h) setsAll_row_tie rfl ⟨rfl, rfl⟩ (by kernel_rfl) rfl
    (fun f fn hf hfn => by
      obtain rfl : f = 3 := Option.some.inj ((show Tryz.prog.funcNamed "swingle/swinglelaw16.SetsAll" = some 3 by kernel_rfl).symm.trans hf) |>.symm
      obtain rfl : fn = Tryz.f3 := (Option.some.inj (Tryz.func3.symm.trans hfn)).symm
      exact ⟨by kernel_rfl, fun j t ht => by
        rw [Tryz.params3] at ht
        have hm : t ∈ [25, 5] := by simpa using Array.mem_of_getElem? ht
        have hall : ([25, 5].all fun u => !Tryz.prog.wantsStandIn u) = true := by kernel_rfl
        exact (show Tryz.prog.wantsStandIn t = false by simpa using List.all_eq_true.1 hall t hm)⟩)
    (by kernel_rfl)
#print axioms setsAll_card
end Go.Proofs.YtilbbnjfaoldoaaGreatDoor
