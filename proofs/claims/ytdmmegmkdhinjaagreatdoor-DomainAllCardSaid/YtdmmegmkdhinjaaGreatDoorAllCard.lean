/- For every problem and every number the law DomainAll of layer 14 answers true, and its arguments read afterwards as they read before; the one listed table of package math/bits is tied to the program's text. No further condition. -/
import Derived.Test.YtdmmegmkdhinjaaGreatDoorLawZ
import Derived.Test.YtdmmegmkdhinjaaGreatDoorOpenB
import Derived.Test.YtdmmegmkdhinjaaGreatDoorTie
import Derived.Test.YtdmmegmkdhinjaaGreatDoorCards
import Derived.SevenTiedAt
namespace Go.Proofs.YtdmmegmkdhinjaaGreatDoor
open Go Go.RowKit Go.ChangeShapes Go.WideShapes Go.Deep

set_option maxRecDepth 100000 in
theorem domainAll_walk {H : Type} {enc : TypeId × Value → H} (W : World) (base : Nat) (v0 v1 : Value) (d0 d1 : DataW H) (p0 p1 : List MemPlace) (k0 : Value.okWide Tryz.prog W .any base 25 v0) (k1 : Value.okWide Tryz.prog W .any base 5 v1)
    (t0 : DataW.Trod enc Tryz.prog W 0 (fun _ => true) true 25 v0 d0 p0) (t1 : DataW.Trod enc Tryz.prog W 0 (fun _ => true) true 5 v1 d1 p1) (f0 : Fits Tryz.prog 25 d0) (_f1 : Fits Tryz.prog 5 d1) (hT : Tab W) (h0 : 0 < W.heap.size) :
    Gives Tryz.prog 6 #[v0, v1] W (.bool true) := by
  obtain ⟨dv, rv, p, rfl, hd, hr, hu⟩ := dprob_of k0 t0 f0
  obtain ⟨n, rfl⟩ := okWide_int Tryz.underlying5 k1
  obtain ⟨m, hm, hwf⟩ := reads_int Tryz.underlying5 (reads_of t1 rfl)
  cases hm
  simp only [Lit.wf, Bool.and_eq_true, decide_eq_true_eq] at hwf
  have h3 : 0 ≤ n ∧ n < 256 := by
    have e1 : IntKind.u8.min = 0 := rfl
    have e2 : IntKind.u8.max = 255 := rfl
    omega
  obtain ⟨k, rfl⟩ : ∃ k : Nat, n = k := ⟨n.toNat, by omega⟩
  exact domainAll_any p k (by omega) dv rv W hd hr h0 (Nat.le_refl _) hu hT
set_option maxRecDepth 100000 in
theorem domainAll_row : Rows.DomainAllSaid :=
  OpenClaim.holds_of_wide 6 Tryz.f6 rfl rfl rfl rfl rfl rfl rfl ⟨rfl, rfl, rfl, rfl, rfl⟩ rfl rfl rfl rfl rfl (by kernel_rfl) Tryz.func6 (by kernel_rfl)
    (of_decide_eq_true (by kernel_rfl)) (by unfold Func.isWrapper; rw [if_neg (of_decide_eq_false (by kernel_rfl))]; exact ⟨rfl, rfl⟩)
    (fun os started H enc _ => law_lift (s := Rows.domainAllSpec) (by kernel_rfl) Tryz.func6 rfl (by kernel_rfl) (by kernel_rfl) (by kernel_rfl)
      (fun H ds hl => by
        match ds, hl with
        | [d1, d2], _ => rfl)
      os started H enc #[.agg #[.slice none 0 0, .slice none 0 0], .int .u8 0] (by kernel_rfl) (by kernel_rfl) (by kernel_rfl) (World.shaped_of_RefB (by kernel_rfl) (by kernel_rfl))
      (fun W base args ds ps hval hA hw hT h0 => by
        rw [Tryz.params6] at hval hA hw
        obtain ⟨v0, v1, d0, d1, p0, p1, rfl, rfl, rfl, t0, t1⟩ := trodAll_two hA
        exact domainAll_walk W base v0 v1 d0 d1 _ _ (hval 0 _ _ rfl rfl) (hval 1 _ _ rfl rfl) t0 t1 (Fits.each hw (j := 0) rfl rfl) (Fits.each hw (j := 1) rfl rfl) hT h0))
set_option maxRecDepth 100000 in
theorem domainAll_card : Rows.DomainAllCardSaid :=
  Claim7.holds_tied_plain_at .later [] [.data] true (true, "62637eccdd43875742cfa89d06d6422752d81b440ac9ba6c50d1541d48c0baec") false
    domainAll_row (fun _ h => by cases h) (by kernel_rfl) (fun _ h => by cases h) domainAll_row_tie rfl ⟨rfl, rfl⟩ (by kernel_rfl) rfl
    (fun f fn hf hfn => by
      obtain rfl : f = 6 := Option.some.inj ((show Tryz.prog.funcNamed "swingle/swinglelaw14.DomainAll" = some 6 by kernel_rfl).symm.trans hf) |>.symm
      obtain rfl : fn = Tryz.f6 := (Option.some.inj (Tryz.func6.symm.trans hfn)).symm
      exact ⟨by kernel_rfl, fun j t ht => by
        rw [Tryz.params6] at ht
        have hm : t ∈ [25, 5] := by simpa using Array.mem_of_getElem? ht
        have hall : ([25, 5].all fun u => !Tryz.prog.wantsStandIn u) = true := by kernel_rfl
        exact (show Tryz.prog.wantsStandIn t = false by simpa using List.all_eq_true.1 hall t hm)⟩)
    (by kernel_rfl)
#print axioms domainAll_card
end Go.Proofs.YtdmmegmkdhinjaaGreatDoor
