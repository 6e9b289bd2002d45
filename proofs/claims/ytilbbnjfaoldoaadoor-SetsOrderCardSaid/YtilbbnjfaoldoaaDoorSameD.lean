/- The reference's comparison of two lists of facts. -/
import Derived.Test.YtilbbnjfaoldoaaDoorBG
import Derived.Test.YtilbbnjfaoldoaaDoorRefM
namespace Go.Proofs.YtilbbnjfaoldoaaDoor
open Go Go.RowKit
attribute [local go_sem] cell_grow u64_sAnd u64_sOr u64_sDiff sDiff_all zeqI zneI sAnd_bit_zero sAnd_bit_zeroN sAnd_bit_nonzero rowOf_grow rowOk_grow rowOf_alloc rowOk_alloc

def sameFs (a b : List Fact) : Bool := decide (a = b)
theorem sameFs_len {a b : List Fact} (h : a.length ≠ b.length) : sameFs a b = false := by unfold sameFs; exact decide_eq_false fun e => h (by rw [e])
theorem sameFs_no {a b : List Fact} {k : Nat} (h : fget a k ≠ fget b k) : sameFs a b = false := by unfold sameFs; exact decide_eq_false fun e => h (by rw [e])
theorem sameFs_yes {a b : List Fact} (hl : a.length = b.length) (h : ∀ i, i < a.length → fget a i = fget b i) : sameFs a b = true := by
  unfold sameFs
  apply decide_eq_true
  apply List.ext_getElem hl
  intro i h1 h2
  have := h i h1
  simpa [fget, h1, h2] using this
theorem fact_ext {x y : Fact} (h1 : x.var = y.var) (h2 : x.elem = y.elem) (h3 : x.inn = y.inn) (h4 : x.rule = y.rule) (h5 : sameI x.why y.why = true) : x = y := by
  obtain ⟨a, b, c, d, e⟩ := x
  obtain ⟨a', b', c', d', e'⟩ := y
  have h6 : e = e' := of_decide_eq_true h5
  simp only at h1 h2 h3 h4
  rw [h1, h2, h3, h4, h6]
theorem bne_no {α : Type} [BEq α] [LawfulBEq α] {x y : α} (h : x = y) : (x != y) = false := by rw [h]; simp
theorem bne_yes {α : Type} [BEq α] [LawfulBEq α] {x y : α} (h : x ≠ y) : (x != y) = true := by simp [h]
set_option maxRecDepth 100000 in
set_option maxHeartbeats 2000000 in
theorem sameFacts_any (a b : List Fact) (av bv : Value) (w : World) {B : Nat} (ha : Fcts w B av a) (hb : Fcts w B bv b) (hB : B ≤ w.heap.size) : Gives Tryd.prog 22 #[av, bv] w (.bool (sameFs a b)) := by
  unfold Gives
  have HA := Lib.hid ha; have HBV := Lib.hid hb
  have hna := ha.len
  have hnb := hb.len
  obtain ⟨aa, ac, rfl⟩ := ha.slice
  obtain ⟨ba, bc, rfl⟩ := hb.slice
  clear ha hb
  by_cases hl : a.length = b.length
  · have e0 : (((a.length : Nat) : Int) != ((b.length : Nat) : Int)) = false := bne_no (by omega)
    have HL := Lib.hid hl
    clear hl
    go_enter Tryd.func22, Tryd.ntmps22
    go_wp2_with fail
    go_loopw [5] (fun i wr => ∃ k : Nat, k ≤ a.length ∧ i = .int .i64 k ∧ (∀ j, j < k → fget a j = fget b j) ∧ Below w.heap.size w wr) (fun i _ => a.length - (intOf i).toNat)
    case atStart => exact ⟨0, Nat.zero_le _, rfl, fun j hj => absurd hj (Nat.not_lt_zero _), Below.refl _ _⟩
    case round =>
      obtain ⟨k, hk, rfl, hall, hb⟩ := hrel
      clear e0
      by_cases hlt : k < a.length
      · have hltb : k < b.length := by have := HL.out; omega
        obtain ⟨la, lo, ov, hla, hlb, hov, l0, l1, l2, l3, l4⟩ := (HA.out.below hb hB).cells hlt
        obtain ⟨ma, mo, nv, hma, hmb, hnv, m0, m1, m2, m3, m4⟩ := (HBV.out.below hb hB).cells hltb
        subst hla hma
        have zl : la < wr.heap.size := by have := hb.size; omega
        have zm : ma < wr.heap.size := by have := hb.size; omega
        obtain ⟨oa, oc, rfl⟩ := hov.slice
        obtain ⟨na, nc, rfl⟩ := hnv.slice
        have hbs : B ≤ wr.heap.size := by have := hb.size; omega
        have HSI := Lib.hid (fun (d : Nat) (os : Array Obj) => sameInts_any (fget a k).why (fget b k).why _ _ (Go.Sort.grow (redrawn wr d) os) ((hov.mono hbs).below (below_regrown wr d os) (Nat.le_refl _)) ((hnv.mono hbs).below (below_regrown wr d os) (Nat.le_refl _)) (below_regrown wr d os).size)
        have HALL := Lib.hid hall; have HB := Lib.hid hb
        obtain ⟨f, hf⟩ : ∃ f, f = fget a k := ⟨_, rfl⟩
        obtain ⟨g, hg⟩ : ∃ g, g = fget b k := ⟨_, rfl⟩
        rw [← hf, ← hg] at HSI
        rw [← hf] at l0 l1 l2 l3 l4
        rw [← hg] at m0 m1 m2 m3 m4
        have HFG : Hid (f ≠ g → sameFs a b = false) := Lib.hid fun h => sameFs_no (k := k) (by rw [← hf, ← hg]; exact h)
        have HFH : Hid (f = g → fget a k = fget b k) := Lib.hid fun h => by rw [← hf, ← hg]; exact h
        clear hall hb hov hnv hf hg
        by_cases h1 : f.var = g.var
        · have HE1 := Lib.hid h1
          have e1 : (f.var != g.var) = false := bne_no h1
          clear h1
          by_cases h2 : f.elem = g.elem
          · have HE2 := Lib.hid h2
            have e2 : (f.elem != g.elem) = false := bne_no h2
            clear h2
            obtain ⟨x, hx⟩ : ∃ x, f.inn = x := ⟨_, rfl⟩
            obtain ⟨y, hy⟩ : ∃ y, g.inn = y := ⟨_, rfl⟩
            rw [hx] at l2
            rw [hy] at m2
            have HX := Lib.hid hx; have HY := Lib.hid hy
            clear hx hy
            cases x
            case false =>
              cases y
              case false =>
                have HE3 : Hid (f.inn = g.inn) := Lib.hid (HX.out.trans HY.out.symm)
                by_cases h4 : f.rule = g.rule
                · have HE4 := Lib.hid h4
                  have e4 : (f.rule != g.rule) = false := bne_no h4
                  clear h4
                  cases h5 : sameI f.why g.why
                  case false =>
                    have HS : Hid (sameFs a b = false) := Lib.hid (HFG.out fun h => by rw [h] at h5; unfold sameI at h5; simp at h5)
                    rw [h5] at HSI
                    clear h5
                    go_wp2_with fail
                    refine wp_region_qb (by kernel_rfl) (by kernel_rfl) ?_
                    repeat go_big_quiet_step ((with_reducible exact Gives.quiet (HSI.out _ _)))
                    refine wpQuiet_nil ?_
                    intro w2 hb2
                    have HB2 := Lib.hid (HB.out.trans (hb2.mono HB.out.size))
                    clear hb2
                    go_wp2
                    go_ret
                    exact ⟨by rw [HS.out]; rfl, HB2.out⟩
                  case true =>
                    have HS : Hid (fget a k = fget b k) := Lib.hid (HFH.out (fact_ext HE1.out HE2.out HE3.out HE4.out h5))
                    rw [h5] at HSI
                    clear h5
                    go_wp2_with fail
                    refine wp_region_qb (by kernel_rfl) (by kernel_rfl) ?_
                    repeat go_big_quiet_step ((with_reducible exact Gives.quiet (HSI.out _ _)))
                    refine wpQuiet_nil ?_
                    intro w2 hb2
                    have HB2 := Lib.hid (HB.out.trans (hb2.mono HB.out.size))
                    clear hb2
                    go_wp2
                    go_roundw
                    case rel => exact ⟨k + 1, by omega, by go_num, fun j hj => if h : j = k then h ▸ HS.out else HALL.out j (by omega), HB2.out⟩
                    case measure => simp [intOf]; omega
                · have HS : Hid (sameFs a b = false) := Lib.hid (HFG.out fun h => h4 (by rw [h]))
                  have e4 : (f.rule != g.rule) = true := bne_yes h4
                  clear h4
                  go_wp2_with fail
                  refine wp_region_qb (by kernel_rfl) (by kernel_rfl) ?_
                  repeat go_big_quiet_step ((with_reducible exact Gives.quiet (HSI.out _ _)))
                  refine wpQuiet_nil ?_
                  intro w2 hb2
                  have HB2 := Lib.hid (HB.out.trans (hb2.mono HB.out.size))
                  clear hb2
                  go_wp2
                  go_ret
                  exact ⟨by rw [HS.out]; rfl, HB2.out⟩
              case true =>
                have HS : Hid (sameFs a b = false) := Lib.hid (HFG.out fun h => by have := HX.out; rw [h, HY.out] at this; cases this)
                go_wp2_with fail
                refine wp_region_qb (by kernel_rfl) (by kernel_rfl) ?_
                repeat go_big_quiet_step ((with_reducible exact Gives.quiet (HSI.out _ _)))
                refine wpQuiet_nil ?_
                intro w2 hb2
                have HB2 := Lib.hid (HB.out.trans (hb2.mono HB.out.size))
                clear hb2
                go_wp2
                go_ret
                exact ⟨by rw [HS.out]; rfl, HB2.out⟩
            case true =>
              cases y
              case true =>
                have HE3 : Hid (f.inn = g.inn) := Lib.hid (HX.out.trans HY.out.symm)
                by_cases h4 : f.rule = g.rule
                · have HE4 := Lib.hid h4
                  have e4 : (f.rule != g.rule) = false := bne_no h4
                  clear h4
                  cases h5 : sameI f.why g.why
                  case false =>
                    have HS : Hid (sameFs a b = false) := Lib.hid (HFG.out fun h => by rw [h] at h5; unfold sameI at h5; simp at h5)
                    rw [h5] at HSI
                    clear h5
                    go_wp2_with fail
                    refine wp_region_qb (by kernel_rfl) (by kernel_rfl) ?_
                    repeat go_big_quiet_step ((with_reducible exact Gives.quiet (HSI.out _ _)))
                    refine wpQuiet_nil ?_
                    intro w2 hb2
                    have HB2 := Lib.hid (HB.out.trans (hb2.mono HB.out.size))
                    clear hb2
                    go_wp2
                    go_ret
                    exact ⟨by rw [HS.out]; rfl, HB2.out⟩
                  case true =>
                    have HS : Hid (fget a k = fget b k) := Lib.hid (HFH.out (fact_ext HE1.out HE2.out HE3.out HE4.out h5))
                    rw [h5] at HSI
                    clear h5
                    go_wp2_with fail
                    refine wp_region_qb (by kernel_rfl) (by kernel_rfl) ?_
                    repeat go_big_quiet_step ((with_reducible exact Gives.quiet (HSI.out _ _)))
                    refine wpQuiet_nil ?_
                    intro w2 hb2
                    have HB2 := Lib.hid (HB.out.trans (hb2.mono HB.out.size))
                    clear hb2
                    go_wp2
                    go_roundw
                    case rel => exact ⟨k + 1, by omega, by go_num, fun j hj => if h : j = k then h ▸ HS.out else HALL.out j (by omega), HB2.out⟩
                    case measure => simp [intOf]; omega
                · have HS : Hid (sameFs a b = false) := Lib.hid (HFG.out fun h => h4 (by rw [h]))
                  have e4 : (f.rule != g.rule) = true := bne_yes h4
                  clear h4
                  go_wp2_with fail
                  refine wp_region_qb (by kernel_rfl) (by kernel_rfl) ?_
                  repeat go_big_quiet_step ((with_reducible exact Gives.quiet (HSI.out _ _)))
                  refine wpQuiet_nil ?_
                  intro w2 hb2
                  have HB2 := Lib.hid (HB.out.trans (hb2.mono HB.out.size))
                  clear hb2
                  go_wp2
                  go_ret
                  exact ⟨by rw [HS.out]; rfl, HB2.out⟩
              case false =>
                have HS : Hid (sameFs a b = false) := Lib.hid (HFG.out fun h => by have := HX.out; rw [h, HY.out] at this; cases this)
                go_wp2_with fail
                refine wp_region_qb (by kernel_rfl) (by kernel_rfl) ?_
                repeat go_big_quiet_step ((with_reducible exact Gives.quiet (HSI.out _ _)))
                refine wpQuiet_nil ?_
                intro w2 hb2
                have HB2 := Lib.hid (HB.out.trans (hb2.mono HB.out.size))
                clear hb2
                go_wp2
                go_ret
                exact ⟨by rw [HS.out]; rfl, HB2.out⟩
          · have HS : Hid (sameFs a b = false) := Lib.hid (HFG.out fun h => h2 (by rw [h]))
            have e2 : (f.elem != g.elem) = true := bne_yes h2
            clear h2
            go_wp2_with fail
            refine wp_region_qb (by kernel_rfl) (by kernel_rfl) ?_
            repeat go_big_quiet_step ((with_reducible exact Gives.quiet (HSI.out _ _)))
            refine wpQuiet_nil ?_
            intro w2 hb2
            have HB2 := Lib.hid (HB.out.trans (hb2.mono HB.out.size))
            clear hb2
            go_wp2
            go_ret
            exact ⟨by rw [HS.out]; rfl, HB2.out⟩
        · have HS : Hid (sameFs a b = false) := Lib.hid (HFG.out fun h => h1 (by rw [h]))
          have e1 : (f.var != g.var) = true := bne_yes h1
          clear h1
          go_wp2_with fail
          refine wp_region_qb (by kernel_rfl) (by kernel_rfl) ?_
          repeat go_big_quiet_step ((with_reducible exact Gives.quiet (HSI.out _ _)))
          refine wpQuiet_nil ?_
          intro w2 hb2
          have HB2 := Lib.hid (HB.out.trans (hb2.mono HB.out.size))
          clear hb2
          go_wp2
          go_ret
          exact ⟨by rw [HS.out]; rfl, HB2.out⟩
      · have hk2 : k = a.length := by omega
        subst hk2
        have HS := Lib.hid (sameFs_yes HL.out hall); have HB := Lib.hid hb
        clear hall hb
        go_wp2
        go_ret
        exact ⟨by rw [HS.out]; rfl, HB.out⟩
  · have HS := Lib.hid (sameFs_len hl)
    have e1 : (((a.length : Nat) : Int) != ((b.length : Nat) : Int)) = true := by rw [int_bne]; simp [hl]
    have hl2 : ¬ ((a.length : Int) = (b.length : Int)) := by omega
    go_enter Tryd.func22, Tryd.ntmps22
    go_wp2
    go_ret
    exact ⟨by rw [HS.out]; rfl, Below.refl _ _⟩
end Go.Proofs.YtilbbnjfaoldoaaDoor
