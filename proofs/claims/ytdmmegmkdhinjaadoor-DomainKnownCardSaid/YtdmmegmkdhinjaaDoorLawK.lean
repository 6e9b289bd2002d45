/- The law DomainKnown: the examples of the chapter. -/
import Derived.Test.YtdmmegmkdhinjaaDoorBO
import Derived.Test.YtdmmegmkdhinjaaDoorSlEq
import Derived.Test.YtdmmegmkdhinjaaDoorDBest
namespace Go.Proofs.YtdmmegmkdhinjaaDoor
open Go Go.RowKit
attribute [local go_sem] cell_grow u64_sAnd u64_sOr u64_sDiff sDiff_all zeqI zneI sAnd_bit_zero sAnd_bit_zeroN sAnd_bit_nonzero

theorem valK1 : supE pA 1 0 2 = 0 ∧ supL pA 1 0 2 = [2, 0] := by decide +kernel
theorem valK2 : supE pA 1 0 1 = 5 ∧ (supL pA 1 0 1).length = 0 := by decide +kernel
theorem valK3 : supE pB 0 1 1 = 0 ∧ supL pB 0 1 1 = [1, 1] := by decide +kernel
theorem valK4 : supE pB 0 0 5 = 5 ∧ (supL pB 0 0 5).length = 0 := by decide +kernel
def whyT : List (List Int) := [[], [], [], [], [], [], [], [3, 4, 6], [2, 3, 5, 6], [2, 3, 5, 6], [7], [8]]
theorem valWhy : ∀ i, i < 12 → (cget (propD pA).2 i).why = lget whyT i := by decide +kernel
theorem valSolA : solE pA 9 = 0 ∧ solL pA 9 = [[3, 1, 2, 0]] ∧ solN pA 9 = 1 := by decide +kernel
theorem valBestB : besE pB 1 = 0 ∧ besL pB 1 = [1, 1] := by decide +kernel
theorem valCoreK : coreE pA (propD pA).2 11 = 0 ∧ coreL pA (propD pA).2 11 = [0, 1, 2] := by decide +kernel
theorem valCoreN : coreE pA (propD pA).2 12 = 2 ∧ (coreL pA (propD pA).2 12).length = 0 := by decide +kernel
theorem Ints.next {w w' : World} {v : Value} {xs : List Int} (h : Ints w w.heap.size v xs) (hb : Below w.heap.size w w') : Ints w' w'.heap.size v xs := (h.below hb (Nat.le_refl _)).mono hb.size
theorem Cts.next {w w' : World} {v : Value} {xs : List Cut} (h : Cts w w.heap.size v xs) (hb : Below w.heap.size w w') : Cts w' w'.heap.size v xs := (h.below hb (Nat.le_refl _)).mono hb.size
theorem Lls.next {w w' : World} {v : Value} {xs : List (List Int)} (h : Lls w w.heap.size v xs) (hb : Below w.heap.size w w') : Lls w' w'.heap.size v xs := (h.below hb (Nat.le_refl _)).mono hb.size
theorem lls_block {w : World} {b : Nat} {t : TypeId} {cs : List Value} {ss : List (List Int)} (h : w.heap[b]? = some (.cells cs.toArray t (0, 0))) (hl : cs.length = ss.length) (hs : ss.length ≤ 1000)
    (hc : ∀ i, i < ss.length → Ints w w.heap.size (cs[i]?.getD undef) (lget ss i)) : Lls w w.heap.size (.slice (some ⟨b, 0, none⟩) ss.length ss.length) ss :=
  ⟨fun i => cs[i]?.getD undef, ⟨by omega, _, _, rfl, Nat.le_refl _, by unfold maxLen; omega, fun _ => ⟨b, 0, rfl, (Array.getElem?_eq_some_iff.1 h).1, fun i hi => by
    have hi2 : i < cs.length := by omega
    rw [Nat.zero_add, cell_of_row _ _ _ _ _ _ h, List.getElem?_toArray]
    simp [hi2]⟩⟩, hc⟩
set_option maxRecDepth 100000 in
set_option maxHeartbeats 8000000 in
theorem domainKnown_any (w : World) (hT : Tab w) (hw0 : 0 < w.heap.size) : Gives Tryd.prog 6 #[] w (.bool true) := by
  unfold Gives
  have HT := Lib.hid hT
  clear hT
  go_enter Tryd.func6, Tryd.ntmps6
  go_wp2_with fail
  refine (mkA _).mono ?_
  rintro e w1 ⟨dv, rv, rfl, hd, hr, hb1⟩
  have H1 := Lib.hid hd; have H2 := Lib.hid hr; have HB1 := Lib.hid hb1
  have hs1 := hb1.size
  obtain ⟨da, dc, rfl⟩ := hd.slice
  obtain ⟨ra, rc, rfl⟩ := hr.slice
  clear hd hr hb1
  go_wp2_with fail
  refine (support_any pA 1 0 2 _ _ w1 H1.out H2.out (by omega) (Nat.le_refl _) (HT.out.below HB1.out hw0)).mono ?_
  rintro e w2 ⟨lv, rfl, hown, hb2⟩
  rw [valK1.1]
  rw [valK1.2] at hown
  have HX1 := Lib.hid (ownsRow_ints hown (by decide) rfl)
  obtain ⟨xa, xc, rfl⟩ : ∃ a c, lv = .slice a 2 c := own_form hown
  have HB2 := Lib.hid (HB1.out.trans (hb2.mono hs1))
  clear hown hb2 H1 H2
  go_wp2_with fail
  refine (mkA _).mono ?_
  rintro e w3 ⟨dv, rv, rfl, hd, hr, hbm⟩
  have H1 := Lib.hid hd; have H2 := Lib.hid hr; have HB3 := Lib.hid (HB2.out.trans (hbm.mono HB2.out.size))
  obtain ⟨da, dc, rfl⟩ := hd.slice
  obtain ⟨ra, rc, rfl⟩ := hr.slice
  have HXN := Lib.hid (HX1.out.next hbm)
  clear HX1 hd hr hbm
  have HX1 := HXN
  clear HXN
  go_wp2_with fail
  refine (support_any pA 1 0 1 _ _ w3 H1.out H2.out (by have := HB3.out.size; omega) (Nat.le_refl _) (HT.out.below HB3.out hw0)).mono ?_
  rintro e w4 ⟨lv, rfl, hown, hb4⟩
  rw [valK2.1]
  rw [valK2.2] at hown
  obtain ⟨ya, yc, rfl⟩ : ∃ a c, lv = .slice a 0 c := own_form hown
  have HX2 := Lib.hid (HX1.out.next hb4)
  clear HX1
  have HX1 := HX2
  have HB4 := Lib.hid (HB3.out.trans (hb4.mono HB3.out.size))
  clear hown hb4 H1 H2 HX2
  go_wp2_with fail
  refine (mkB _).mono ?_
  rintro e w5 ⟨dv, rv, rfl, hd, hr, hbm⟩
  have H1 := Lib.hid hd; have H2 := Lib.hid hr; have HB5 := Lib.hid (HB4.out.trans (hbm.mono HB4.out.size))
  obtain ⟨da, dc, rfl⟩ := hd.slice
  obtain ⟨ra, rc, rfl⟩ := hr.slice
  have HXN := Lib.hid (HX1.out.next hbm)
  clear HX1 hd hr hbm
  have HX1 := HXN
  clear HXN
  go_wp2_with fail
  refine (support_any pB 0 1 1 _ _ w5 H1.out H2.out (by have := HB5.out.size; omega) (Nat.le_refl _) (HT.out.below HB5.out hw0)).mono ?_
  rintro e w6 ⟨lv, rfl, hown, hb6⟩
  rw [valK3.1]
  rw [valK3.2] at hown
  have HZ1 := Lib.hid (ownsRow_ints hown (by decide) rfl)
  obtain ⟨za, zc, rfl⟩ : ∃ a c, lv = .slice a 2 c := own_form hown
  have HX2 := Lib.hid (HX1.out.next hb6)
  clear HX1
  have HX1 := HX2
  have HB6 := Lib.hid (HB5.out.trans (hb6.mono HB5.out.size))
  clear hown hb6 H1 H2 HX2
  go_wp2_with fail
  refine (mkB _).mono ?_
  rintro e w7 ⟨dv, rv, rfl, hd, hr, hb7⟩
  have H1 := Lib.hid hd; have H2 := Lib.hid hr; have HB7 := Lib.hid (HB6.out.trans (hb7.mono HB6.out.size))
  obtain ⟨da, dc, rfl⟩ := hd.slice
  obtain ⟨ra, rc, rfl⟩ := hr.slice
  have HX2 := Lib.hid (HX1.out.next hb7); have HZ2 := Lib.hid (HZ1.out.next hb7)
  clear HX1 HZ1 hd hr hb7
  go_wp2_with fail
  refine (support_any pB 0 0 5 _ _ w7 H1.out H2.out (by have := HB7.out.size; omega) (Nat.le_refl _) (HT.out.below HB7.out hw0)).mono ?_
  rintro e w8 ⟨lv, rfl, hown, hb8⟩
  rw [valK4.1]
  rw [valK4.2] at hown
  obtain ⟨va, vc, rfl⟩ : ∃ a c, lv = .slice a 0 c := own_form hown
  have HX1 := Lib.hid (HX2.out.next hb8); have HZ1 := Lib.hid (HZ2.out.next hb8)
  have HB8 := Lib.hid (HB7.out.trans (hb8.mono HB7.out.size))
  clear hown hb8 H1 H2 HX2 HZ2
  go_wp2_with fail
  have hn := Below.new1 w8 (.cells (intsV [2, 0]).toArray 3)
  refine (equal_ints [2, 0] [2, 0] _ _ _ (HX1.out.next hn) (ints_block (heap_new0 w8 (.cells (intsV [2, 0]).toArray 3)) (by decide)) (Nat.le_refl _)).mono ?_
  rintro e w9 ⟨rfl, hb9⟩
  rw [show sameI [2, 0] [2, 0] = true from by decide]
  have hb89 := hn.trans (hb9.mono hn.size)
  have HZ2 := Lib.hid (HZ1.out.next hb89); have HB9 := Lib.hid (HB8.out.trans (hb89.mono HB8.out.size))
  clear hn hb9 hb89 HX1 HZ1
  go_wp2_with fail
  have hn := Below.new1 w9 (.cells (intsV [1, 1]).toArray 3)
  refine (equal_ints [1, 1] [1, 1] _ _ _ (HZ2.out.next hn) (ints_block (heap_new0 w9 (.cells (intsV [1, 1]).toArray 3)) (by decide)) (Nat.le_refl _)).mono ?_
  rintro e w10 ⟨rfl, hb10⟩
  rw [show sameI [1, 1] [1, 1] = true from by decide]
  have hb910 := hn.trans (hb10.mono hn.size)
  have HB10 := Lib.hid (HB9.out.trans (hb910.mono HB9.out.size))
  clear hn hb10 hb910 HZ2 HB1 HB2 HB3 HB4 HB5 HB6 HB7 HB8 HB9
  go_wp2_with fail
  refine (mkA _).mono ?_
  rintro e w11 ⟨dv, rv, rfl, hd, hr, hb11⟩
  have H1 := Lib.hid hd; have H2 := Lib.hid hr; have HB11 := Lib.hid (HB10.out.trans (hb11.mono HB10.out.size))
  obtain ⟨da, dc, rfl⟩ := hd.slice
  obtain ⟨ra, rc, rfl⟩ := hr.slice
  clear hd hr hb11
  go_wp2_with fail
  refine (propagate_any pA _ _ w11 H1.out H2.out (by have := HB11.out.size; omega) (Nat.le_refl _) (HT.out.below HB11.out hw0)).mono ?_
  rintro e w12 ⟨hb12, ⟨hno, _⟩ | ⟨_, fv, cv, rfl, hfo, hco⟩⟩
  · rw [okA] at hno; cases hno
  have hcl : (propD pA).2.length = 12 := valPropA.2.1
  obtain ⟨fa, fc, rfl⟩ : ∃ a c, fv = .slice a 4 c := own_form hfo
  have hgp := run_good (rs := true) okA (padD_ok okA)
  have hct := hco.cts (by rw [hcl]; decide) (fun i hi => by have h : (cget (propD pA).2 i).why.length ≤ 128 := hgp.why i hi; omega)
  obtain ⟨ca, cc, rfl⟩ : ∃ a c, cv = .slice a 12 c := by obtain ⟨cs, h, _⟩ := hco; rw [hcl] at h; exact own_form h
  have HB12 := Lib.hid (HB11.out.trans (hb12.mono HB11.out.size)); have HCT := Lib.hid hct; have HCL := Lib.hid hcl
  clear hfo hco hct hb12 H1 H2 HB10 HB11 hgp hcl
  obtain ⟨cs, hcs⟩ : ∃ cs, cs = (propD pA).2 := ⟨_, rfl⟩
  rw [← hcs] at HCT HCL
  have HCS := Lib.hid hcs
  clear hcs
  go_wp2_with fail
  have hwt : ∃ W : World, W = ((((((w12.alloc (.cells (intsV [3, 4, 6]).toArray 3)).alloc (.cells (intsV [2, 3, 5, 6]).toArray 3)).alloc (.cells (intsV [2, 3, 5, 6]).toArray 3)).alloc (.cells (intsV [7]).toArray 3)).alloc (.cells (intsV [8]).toArray 3)).alloc
    (.cells #[.slice none 0 0, .slice none 0 0, .slice none 0 0, .slice none 0 0, .slice none 0 0, .slice none 0 0, .slice none 0 0, .slice (some ⟨w12.heap.size, 0, none⟩) 3 3, .slice (some ⟨w12.heap.size + 1, 0, none⟩) 4 4, .slice (some ⟨w12.heap.size + 1 + 1, 0, none⟩) 4 4, .slice (some ⟨w12.heap.size + 1 + 1 + 1, 0, none⟩) 1 1, .slice (some ⟨w12.heap.size + 1 + 1 + 1 + 1, 0, none⟩) 1 1] 30)) := ⟨_, rfl⟩
  have hb5 := Below.new5 w12 (.cells (intsV [3, 4, 6]).toArray 3) (.cells (intsV [2, 3, 5, 6]).toArray 3) (.cells (intsV [2, 3, 5, 6]).toArray 3) (.cells (intsV [7]).toArray 3) (.cells (intsV [8]).toArray 3)
  have hk5 := heap_new5 w12 (.cells (intsV [3, 4, 6]).toArray 3) (.cells (intsV [2, 3, 5, 6]).toArray 3) (.cells (intsV [2, 3, 5, 6]).toArray 3) (.cells (intsV [7]).toArray 3) (.cells (intsV [8]).toArray 3)
  obtain ⟨W, hW⟩ := hwt
  obtain ⟨V, hV⟩ : ∃ V, V = (((((w12.alloc (.cells (intsV [3, 4, 6]).toArray 3)).alloc (.cells (intsV [2, 3, 5, 6]).toArray 3)).alloc (.cells (intsV [2, 3, 5, 6]).toArray 3)).alloc (.cells (intsV [7]).toArray 3)).alloc (.cells (intsV [8]).toArray 3)) := ⟨_, rfl⟩
  rw [← hV] at hW hb5 hk5
  have hVs : V.heap.size = w12.heap.size + 5 := by rw [hV]; simp
  have hb6 := Below.new1 V (.cells #[.slice none 0 0, .slice none 0 0, .slice none 0 0, .slice none 0 0, .slice none 0 0, .slice none 0 0, .slice none 0 0, .slice (some ⟨w12.heap.size, 0, none⟩) 3 3, .slice (some ⟨w12.heap.size + 1, 0, none⟩) 4 4, .slice (some ⟨w12.heap.size + 1 + 1, 0, none⟩) 4 4, .slice (some ⟨w12.heap.size + 1 + 1 + 1, 0, none⟩) 1 1, .slice (some ⟨w12.heap.size + 1 + 1 + 1 + 1, 0, none⟩) 1 1] 30)
  have hk6 := heap_new0 V (.cells #[.slice none 0 0, .slice none 0 0, .slice none 0 0, .slice none 0 0, .slice none 0 0, .slice none 0 0, .slice none 0 0, .slice (some ⟨w12.heap.size, 0, none⟩) 3 3, .slice (some ⟨w12.heap.size + 1, 0, none⟩) 4 4, .slice (some ⟨w12.heap.size + 1 + 1, 0, none⟩) 4 4, .slice (some ⟨w12.heap.size + 1 + 1 + 1, 0, none⟩) 1 1, .slice (some ⟨w12.heap.size + 1 + 1 + 1 + 1, 0, none⟩) 1 1] 30)
  have hlw : Lls (V.alloc (.cells #[.slice none 0 0, .slice none 0 0, .slice none 0 0, .slice none 0 0, .slice none 0 0, .slice none 0 0, .slice none 0 0, .slice (some ⟨w12.heap.size, 0, none⟩) 3 3, .slice (some ⟨w12.heap.size + 1, 0, none⟩) 4 4, .slice (some ⟨w12.heap.size + 1 + 1, 0, none⟩) 4 4, .slice (some ⟨w12.heap.size + 1 + 1 + 1, 0, none⟩) 1 1, .slice (some ⟨w12.heap.size + 1 + 1 + 1 + 1, 0, none⟩) 1 1] 30)) _ (.slice (some ⟨V.heap.size, 0, none⟩) 12 12) whyT :=
    lls_block (ss := whyT) (cs := [.slice none 0 0, .slice none 0 0, .slice none 0 0, .slice none 0 0, .slice none 0 0, .slice none 0 0, .slice none 0 0, .slice (some ⟨w12.heap.size, 0, none⟩) 3 3, .slice (some ⟨w12.heap.size + 1, 0, none⟩) 4 4, .slice (some ⟨w12.heap.size + 1 + 1, 0, none⟩) 4 4, .slice (some ⟨w12.heap.size + 1 + 1 + 1, 0, none⟩) 1 1, .slice (some ⟨w12.heap.size + 1 + 1 + 1 + 1, 0, none⟩) 1 1]) hk6 rfl (by decide) (fun i hi => by
      have hi12 : i < 12 := hi
      match i, hi12 with
      | 0, _ | 1, _ | 2, _ | 3, _ | 4, _ | 5, _ | 6, _ => exact Ints.nil _ _
      | 7, _ => exact Ints.next (ints_block (xs := [3, 4, 6]) hk5.1 (by decide)) hb6
      | 8, _ => exact Ints.next (ints_block (xs := [2, 3, 5, 6]) hk5.2.1 (by decide)) hb6
      | 9, _ => exact Ints.next (ints_block (xs := [2, 3, 5, 6]) hk5.2.2.1 (by decide)) hb6
      | 10, _ => exact Ints.next (ints_block (xs := [7]) hk5.2.2.2.1 (by decide)) hb6
      | 11, _ => exact Ints.next (ints_block (xs := [8]) hk5.2.2.2.2 (by decide)) hb6)
  rw [← hW] at hlw hb6
  have hbW := hb5.trans (hb6.mono (by omega))
  have HC := Lib.hid (HCT.out.next hbW); have HLW := Lib.hid hlw; have HBW := Lib.hid (HB12.out.trans (hbW.mono HB12.out.size))
  have HW := Lib.hid hW; have HV := Lib.hid hV
  obtain ⟨tb, htb⟩ : ∃ tb, tb = V.heap.size := ⟨_, rfl⟩
  rw [← htb] at HLW
  have HTB : Hid (tb = w12.heap.size + 5) := Lib.hid (by rw [htb, hVs])
  have hsW : w12.heap.size ≤ W.heap.size := hbW.size
  clear hb5 hk5 hb6 hk6 hlw hbW hW hV hVs htb HCT HB12
  go_loopw [85] (fun iv wr => ∃ k : Nat, k ≤ 12 ∧ iv = .int .i64 k ∧ Below W.heap.size W wr) (fun iv _ => 12 - (intOf iv).toNat)
  case atStart => exact ⟨0, Nat.zero_le _, rfl, by rw [HW.out, HV.out]; exact Below.refl _ _⟩
  case round =>
    clear HW HV
    obtain ⟨k, hk, rfl, hb⟩ := hrel
    have HB := Lib.hid hb
    by_cases hlt : k < 12
    · obtain ⟨lb, lo, yv, hla, hlb, hyv, l0, l1, l2, l3⟩ := (HC.out.next hb).cells (j := k) (by rw [HCL.out]; exact hlt)
      subst hla
      obtain ⟨tp, tpo, tq, tn, tc, hte, htp, ht0, hti⟩ := lls_cell HLW.out (Nat.le_refl _) hb (k := k) hlt
      cases hte
      rw [Nat.zero_add, HTB.out] at ht0
      have ht0 : wr.cell? ⟨w12.heap.size + 1 + 1 + 1 + 1 + 1, k, none⟩ = some (.slice tq (lget whyT k).length tc) := ht0
      have htp : w12.heap.size + 1 + 1 + 1 + 1 + 1 < wr.heap.size := by rw [HTB.out] at htp; exact htp
      have htp2 : w12.heap.size + 1 + 1 + 1 + 1 < wr.heap.size := by omega
      have htp3 : w12.heap.size + 1 + 1 + 1 + 1 + 1 < wr.heap.size + 1 := by omega
      obtain ⟨ya, yc, rfl⟩ := hyv.slice
      have hwy : (cget cs k).why = lget whyT k := by rw [HCS.out]; exact valWhy k hlt
      have hn := Below.new1 wr (.cells #[.int .i64 (cget cs k).var, .int .i64 (cget cs k).value, .int .i64 (cget cs k).rule, .slice ya (cget cs k).why.length yc] 45)
      have HEQ := Lib.hid (fun (d : Nat) (os : Array Obj) => equal_ints (cget cs k).why (lget whyT k) _ _ (Go.Sort.grow (redrawn (wr.alloc (.cells #[.int .i64 (cget cs k).var, .int .i64 (cget cs k).value, .int .i64 (cget cs k).rule, .slice ya (cget cs k).why.length yc] 45)) d) os)
        ((hyv.next hn).next (below_regrown _ d os)) (((hti.mono (show W.heap.size ≤ wr.heap.size from hb.size)).next hn).next (below_regrown _ d os)) (Nat.le_refl _))
      rw [show sameI (cget cs k).why (lget whyT k) = true by rw [hwy]; unfold sameI; simp] at HEQ
      have hkI : ((k : Nat) : Int) < 12 := by omega
      have HN := Lib.hid hn
      have z12 : lb < wr.heap.size := hlb
      obtain ⟨c, hc⟩ : ∃ c, c = cget cs k := ⟨_, rfl⟩
      rw [← hc] at l0 l1 l2 l3 HEQ HN
      clear hyv hti hwy hn hb hc
      go_wp2_with fail
      refine wp_region_qb (by kernel_rfl) (by kernel_rfl) ?_
      repeat go_big_quiet_step ((with_reducible exact Gives.quiet (HEQ.out _ _)))
      refine wpQuiet_nil ?_
      intro w5 hb5
      have HB5 := Lib.hid (HB.out.trans ((HN.out.trans (hb5.mono HN.out.size)).mono HB.out.size))
      clear hb5 ht0 l0 l1 l2 l3 HEQ
      go_wp2
      go_roundw
      case rel => exact ⟨k + 1, by omega, by go_num, HB5.out⟩
      case measure => simp [intOf]; omega
    · have hk2 : k = 12 := by omega
      subst hk2
      have HC2 := Lib.hid (HC.out.next hb)
      have HBR := Lib.hid (HBW.out.trans (hb.mono HBW.out.size))
      clear hb HB HC HLW HBW
      go_wp2_with fail
      refine (mkA _).mono ?_
      rintro e w13 ⟨dv, rv, rfl, hd, hr, hb13⟩
      have H1 := Lib.hid hd; have H2 := Lib.hid hr; have HB13 := Lib.hid (HBR.out.trans (hb13.mono HBR.out.size)); have HC3 := Lib.hid (HC2.out.next hb13)
      obtain ⟨da, dc, rfl⟩ := hd.slice
      obtain ⟨ra, rc, rfl⟩ := hr.slice
      clear hd hr hb13 HC2
      go_wp2_with fail
      refine (solve_any pA 9 _ _ w13 H1.out H2.out (by have := HB13.out.size; omega) (Nat.le_refl _) (HT.out.below HB13.out hw0)).mono ?_
      rintro e w14 ⟨sv, rfl, hso, hb14⟩
      rw [valSolA.1, valSolA.2.2]
      rw [valSolA.2.1] at hso
      have HSL := Lib.hid (hso.lls (by decide) (by decide))
      obtain ⟨sa, sc, rfl⟩ : ∃ a c, sv = .slice a 1 c := hso.form
      have HB14 := Lib.hid (HB13.out.trans (hb14.mono HB13.out.size)); have HC4 := Lib.hid (HC3.out.next hb14)
      clear hso hb14 H1 H2 HC3
      go_wp2_with fail
      refine (mkB _).mono ?_
      rintro e w15 ⟨dv, rv, rfl, hd, hr, hb15⟩
      have H1 := Lib.hid hd; have H2 := Lib.hid hr; have HB15 := Lib.hid (HB14.out.trans (hb15.mono HB14.out.size)); have HC5 := Lib.hid (HC4.out.next hb15); have HSL2 := Lib.hid (HSL.out.next hb15)
      obtain ⟨da, dc, rfl⟩ := hd.slice
      obtain ⟨ra, rc, rfl⟩ := hr.slice
      clear hd hr hb15 HC4 HSL
      go_wp2_with fail
      refine (best_any pB 1 _ _ w15 H1.out H2.out (by have := HB15.out.size; omega) (Nat.le_refl _) (HT.out.below HB15.out hw0)).mono ?_
      rintro e w16 ⟨bv, rfl, hbo, hb16⟩
      rw [valBestB.1]
      rw [valBestB.2] at hbo
      have HBI := Lib.hid (ownsRow_ints hbo (by decide) rfl)
      obtain ⟨ba, bc, rfl⟩ : ∃ a c, bv = .slice a 2 c := own_form hbo
      have HB16 := Lib.hid (HB15.out.trans (hb16.mono HB15.out.size)); have HC6 := Lib.hid (HC5.out.next hb16); have HSL3 := Lib.hid (HSL2.out.next hb16)
      clear hbo hb16 H1 H2 HC5 HSL2
      go_wp2_with fail
      refine (mkA _).mono ?_
      rintro e w17 ⟨dv, rv, rfl, hd, hr, hb17⟩
      have H1 := Lib.hid hd; have H2 := Lib.hid hr; have HB17 := Lib.hid (HB16.out.trans (hb17.mono HB16.out.size)); have HC7 := Lib.hid (HC6.out.next hb17); have HSL4 := Lib.hid (HSL3.out.next hb17); have HBI2 := Lib.hid (HBI.out.next hb17)
      obtain ⟨da, dc, rfl⟩ := hd.slice
      obtain ⟨ra, rc, rfl⟩ := hr.slice
      clear hd hr hb17 HC6 HSL3 HBI
      go_wp2_with fail
      refine (core_any pA cs 11 (by rw [HCL.out]; decide) _ _ _ w17 H1.out H2.out HC7.out (by have := HB17.out.size; omega) (Nat.le_refl _) (HT.out.below HB17.out hw0)).mono ?_
      rintro e w18 ⟨kv, rfl, hko, hb18⟩
      rw [HCS.out, valCoreK.1]
      rw [HCS.out, valCoreK.2] at hko
      have HKI := Lib.hid (ownsRow_ints hko (by decide) rfl)
      obtain ⟨ka, kc, rfl⟩ : ∃ a c, kv = .slice a 3 c := own_form hko
      have HB18 := Lib.hid (HB17.out.trans (hb18.mono HB17.out.size)); have HC8 := Lib.hid (HC7.out.next hb18); have HSL5 := Lib.hid (HSL4.out.next hb18); have HBI3 := Lib.hid (HBI2.out.next hb18)
      clear hko hb18 H1 H2 HC7 HSL4 HBI2
      go_wp2_with fail
      refine (mkA _).mono ?_
      rintro e w19 ⟨dv, rv, rfl, hd, hr, hb19⟩
      have H1 := Lib.hid hd; have H2 := Lib.hid hr; have HB19 := Lib.hid (HB18.out.trans (hb19.mono HB18.out.size)); have HC9 := Lib.hid (HC8.out.next hb19); have HSL6 := Lib.hid (HSL5.out.next hb19); have HBI4 := Lib.hid (HBI3.out.next hb19); have HKI2 := Lib.hid (HKI.out.next hb19)
      obtain ⟨da, dc, rfl⟩ := hd.slice
      obtain ⟨ra, rc, rfl⟩ := hr.slice
      clear hd hr hb19 HC8 HSL5 HBI3 HKI
      go_wp2_with fail
      refine (core_any pA cs 12 (by rw [HCL.out]; decide) _ _ _ w19 H1.out H2.out HC9.out (by have := HB19.out.size; omega) (Nat.le_refl _) (HT.out.below HB19.out hw0)).mono ?_
      rintro e w20 ⟨nv, rfl, hno, hb20⟩
      rw [HCS.out, valCoreN.1]
      rw [HCS.out, valCoreN.2] at hno
      obtain ⟨na, nc, rfl⟩ : ∃ a c, nv = .slice a 0 c := own_form hno
      have HB20 := Lib.hid (HB19.out.trans (hb20.mono HB19.out.size)); have HSL7 := Lib.hid (HSL6.out.next hb20); have HBI5 := Lib.hid (HBI4.out.next hb20); have HKI3 := Lib.hid (HKI2.out.next hb20)
      clear hno hb20 H1 H2 HC9 HSL6 HBI4 HKI2 HB13 HB14 HB15 HB16 HB17 HB18 HB19
      go_wp2_with fail
      have hn := Below.new2 w20 (.cells (intsV [3, 1, 2, 0]).toArray 3) (.cells #[.slice (some ⟨w20.heap.size, 0, none⟩) 4 4] 30)
      have hk := heap_new2 w20 (.cells (intsV [3, 1, 2, 0]).toArray 3) (.cells #[.slice (some ⟨w20.heap.size, 0, none⟩) 4 4] 30)
      refine (sameLists_any [[3, 1, 2, 0]] [[3, 1, 2, 0]] _ _ _ (HSL7.out.next hn) (lls_block (ss := [[3, 1, 2, 0]]) (cs := [.slice (some ⟨w20.heap.size, 0, none⟩) 4 4]) hk.2 rfl (by decide) (fun i hi => by
        have hi1 : i < 1 := hi
        match i, hi1 with
        | 0, _ => exact ints_block (xs := [3, 1, 2, 0]) hk.1 (by decide))) (Nat.le_refl _)).mono ?_
      rintro e w21 ⟨rfl, hb21⟩
      rw [show sameL [[3, 1, 2, 0]] [[3, 1, 2, 0]] = true from by decide]
      have hb2021 := hn.trans (hb21.mono hn.size)
      have HBI6 := Lib.hid (HBI5.out.next hb2021); have HKI4 := Lib.hid (HKI3.out.next hb2021); have HB21 := Lib.hid (HB20.out.trans (hb2021.mono HB20.out.size))
      clear hn hk hb21 hb2021 HSL7 HBI5 HKI3
      go_wp2_with fail
      have hn := Below.new1 w21 (.cells (intsV [1, 1]).toArray 3)
      refine (equal_ints [1, 1] [1, 1] _ _ _ (HBI6.out.next hn) (ints_block (heap_new0 w21 (.cells (intsV [1, 1]).toArray 3)) (by decide)) (Nat.le_refl _)).mono ?_
      rintro e w22 ⟨rfl, hb22⟩
      rw [show sameI [1, 1] [1, 1] = true from by decide]
      have hb2122 := hn.trans (hb22.mono hn.size)
      have HKI5 := Lib.hid (HKI4.out.next hb2122); have HB22 := Lib.hid (HB21.out.trans (hb2122.mono HB21.out.size))
      clear hn hb22 hb2122 HBI6 HKI4
      go_wp2_with fail
      have hn := Below.new1 w22 (.cells (intsV [0, 1, 2]).toArray 3)
      refine (equal_ints [0, 1, 2] [0, 1, 2] _ _ _ (HKI5.out.next hn) (ints_block (heap_new0 w22 (.cells (intsV [0, 1, 2]).toArray 3)) (by decide)) (Nat.le_refl _)).mono ?_
      rintro e w23 ⟨rfl, hb23⟩
      rw [show sameI [0, 1, 2] [0, 1, 2] = true from by decide]
      have hb2223 := hn.trans (hb23.mono hn.size)
      have HB23 := Lib.hid (HB22.out.trans (hb2223.mono HB22.out.size))
      clear hn hb23 hb2223 HKI5
      go_wp2_with fail
      refine (works_any _ (HT.out.below HB23.out hw0) (by have := HB23.out.size; omega)).mono ?_
      rintro e1 w9 ⟨rfl, hb9⟩
      have HF := Lib.hid (HB23.out.trans (hb9.mono HB23.out.size))
      clear hb9
      go_wp2
      go_ret
      exact ⟨rfl, HF.out⟩
end Go.Proofs.YtdmmegmkdhinjaaDoor
