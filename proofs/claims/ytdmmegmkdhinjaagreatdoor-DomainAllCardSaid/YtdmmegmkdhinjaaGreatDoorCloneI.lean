/- slices.Clone at rows of numbers. -/
import Derived.Test.YtdmmegmkdhinjaaGreatDoorDBest
import Derived.Lib.SliceRun
namespace Go.Proofs.YtdmmegmkdhinjaaGreatDoor
open Go Go.RowKit
attribute [local go_sem] cell_grow u64_sAnd u64_sOr u64_sDiff sDiff_all zeqI zneI sAnd_bit_zero sAnd_bit_zeroN sAnd_bit_nonzero Oper.semAt_some

set_option maxRecDepth 100000 in
set_option maxHeartbeats 1000000 in
theorem clone_ls (ss : List (List Int)) (v : Value) (w : World) {base : Nat} (h : LOwn w base v ss) (hsm : ss.length ≤ 1000) (hbase : base ≤ w.heap.size) :
    Calls Tryz.prog 33 #[v] w fun e w' => ∃ v', e = .returned v' ∧ LOwn w' base v' ss ∧ (∀ k, v'.ownBlock = some k → w.heap.size ≤ k) ∧ Below w.heap.size w w' := by
  obtain ⟨cs, hc, hr⟩ := h
  have q22 : ∀ (w : World) (a : Option Addr) (n c n' c' : Nat), (binOp .eql 46 (.slice a n c) (.slice none n' c')).run Tryz.prog w = .ok (.bool a.isNone) w := fun w a n c n' c' => Lib.run_eql_slice_nil w _ _ a n c n' c' Tryz.underlying46
  rcases hc.2 with ⟨h1, h2⟩ | ⟨g, cap, cur, h1, hbg, hg, hnc, hcm, hcs, htk⟩
  · have hs : ss = [] := List.length_eq_zero_iff.1 h2
    subst hs h1
    clear hr hc
    go_enter Tryz.func33, Tryz.ntmps33
    go_wp2
    go_ret
    exact ⟨_, rfl, LOwn.nil _ _, (fun k hk => by simp [Value.ownBlock] at hk), Below.refl _ _⟩
  · subst h1
    obtain ⟨i0, hi, hz0, hz1, hz2⟩ := info_parts infoL
    have hcl : cs.length = ss.length := by have := hc.1; omega
    have hcell : ∀ j u, cs[j]? = some u → w.cell? ((⟨g, 0, none⟩ : Addr).add j) = some u := hc.cells (g := g) rfl
    have hgl : g < w.heap.size := (Array.getElem?_eq_some_iff.1 hg).1
    have hone : ∀ u ∈ cs, u.oneCell' = true := fun u hu => by
      obtain ⟨i, hi, rfl⟩ := List.mem_iff_getElem.1 hu
      obtain ⟨yv, e5, e6⟩ := hr i (by omega)
      rw [List.getElem?_eq_getElem hi] at e5
      cases e5
      obtain ⟨a, c, hv⟩ := own_form e6
      rw [hv]; rfl
    have HCE := Lib.hid hcell; have HR := Lib.hid hr; have HONE := Lib.hid hone; have HCL := Lib.hid hcl
    clear hcell hr hone hc hg hcs htk
    go_enter Tryz.func33, Tryz.ntmps33
    go_wp2_with (at_builtin; refine wpList_append_own _ rfl _ _ 46 rfl w.heap.size 39 i0 (.slice none 0 0) 1 24 Tryz.underlying46 hi hz0 hz1 hz2 rfl (by decide) _ _ _ rfl (World.ownsRow_made w #[] 0 (Nat.le_refl _) (Nat.zero_le _) rfl) ⟨g, 0, none⟩ ss.length cap cs rfl (by rw [HCL.out, Nat.mul_one]) ?qc2 ?qc3 ?qc4 ?qc5 (by simp) ?_)
    case qc2 =>
      intro j u hj
      have h5 := HCE.out j u hj
      rw [Addr.add_lit] at h5 ⊢
      exact ((Below.new1 w _).cell (p := ⟨g, 0 + j, none⟩) hgl).trans h5
    case qc3 => exact HONE.out
    case qc4 => unfold maxLen; omega
    case qc5 => omega
    intro v' w1 hown hgrow _
    have hb := (Below.new1 w (.cells #[] 39)).grown hgrow (by simp) (fun q hq => by simp [Value.ownBlock] at hq; omega)
    try simp only [Nat.zero_add, List.nil_append] at hown
    obtain ⟨xa, xc, rfl⟩ := own_form hown
    have HOW := Lib.hid hown; have HB := Lib.hid hb
    clear hgrow hown hb
    go_wp2
    go_ret
    refine ⟨_, rfl, ⟨cs, own_mono HOW.out hbase, fun i hi => ?_⟩, fun k hk => (HOW.out.lt k hk).1, HB.out⟩
    obtain ⟨yv, e5, e6⟩ := HR.out i hi
    exact ⟨yv, e5, own_ck e6 (CK.below HB.out)⟩
end Go.Proofs.YtdmmegmkdhinjaaGreatDoor
