/- The reference's comparison of two logs. -/
import Derived.Test.YtdmmegmkdhinjaaGreatDoorBK
import Derived.Test.YtdmmegmkdhinjaaGreatDoorBD
namespace Go.Proofs.YtdmmegmkdhinjaaGreatDoor
open Go Go.RowKit
attribute [local go_sem] cell_grow u64_sAnd u64_sOr u64_sDiff sDiff_all zeqI zneI sAnd_bit_zero sAnd_bit_zeroN sAnd_bit_nonzero

def sameCs (a b : List Cut) : Bool := decide (a = b)
theorem sameCs_len {a b : List Cut} (h : a.length ≠ b.length) : sameCs a b = false := by unfold sameCs; exact decide_eq_false fun e => h (by rw [e])
theorem sameCs_no {a b : List Cut} {k : Nat} (h : cget a k ≠ cget b k) : sameCs a b = false := by unfold sameCs; exact decide_eq_false fun e => h (by rw [e])
theorem sameCs_yes {a b : List Cut} (hl : a.length = b.length) (h : ∀ i, i < a.length → cget a i = cget b i) : sameCs a b = true := by
  unfold sameCs
  apply decide_eq_true
  apply List.ext_getElem hl
  intro i h1 h2
  have := h i h1
  simpa [cget, h1, h2] using this
theorem cut_ext {x y : Cut} (h1 : x.var = y.var) (h2 : x.value = y.value) (h4 : x.rule = y.rule) (h5 : sameI x.why y.why = true) : x = y := by
  obtain ⟨a, b, d, e⟩ := x
  obtain ⟨a', b', d', e'⟩ := y
  have h6 : e = e' := of_decide_eq_true h5
  simp only at h1 h2 h4
  rw [h1, h2, h4, h6]
theorem bne_no {α : Type} [BEq α] [LawfulBEq α] {x y : α} (h : x = y) : (x != y) = false := by rw [h]; simp
theorem bne_yes {α : Type} [BEq α] [LawfulBEq α] {x y : α} (h : x ≠ y) : (x != y) = true := by simp [h]
set_option maxRecDepth 100000 in
set_option maxHeartbeats 2000000 in
theorem sameCuts_any (a b : List Cut) (av bv : Value) (w : World) {B : Nat} (ha : Cts w B av a) (hb : Cts w B bv b) (hB : B ≤ w.heap.size) : Gives Tryz.prog 13 #[av, bv] w (.bool (sameCs a b)) := by
  unfold Gives
  have HA := Lib.hid ha; have HBV := Lib.hid hb
  have hna := ha.len
  have hnb := hb.len
  obtain ⟨aa, ac, rfl⟩ := ha.slice
  obtain ⟨ba, bc, rfl⟩ := hb.slice
  clear ha hb
  by_cases hl : a.length = b.length
  · have e0 : (((a.length : Nat) : Int) != ((b.length : Nat) : Int)) = false := bne_no (by omega)
    have HL := Lib.hid hl
    clear hl
    go_enter Tryz.func13, Tryz.ntmps13
    go_wp2_with fail
    go_loopw [5] (fun i wr => ∃ k : Nat, k ≤ a.length ∧ i = .int .i64 k ∧ (∀ j, j < k → cget a j = cget b j) ∧ Below w.heap.size w wr) (fun i _ => a.length - (intOf i).toNat)
    case atStart => exact ⟨0, Nat.zero_le _, rfl, fun j hj => absurd hj (Nat.not_lt_zero _), Below.refl _ _⟩
    case round =>
      obtain ⟨k, hk, rfl, hall, hb⟩ := hrel
      clear e0
      by_cases hlt : k < a.length
      · have hltb : k < b.length := by have := HL.out; omega
        obtain ⟨la, lo, ov, hla, hlb, hov, l0, l1, l2, l3⟩ := (HA.out.below hb hB).cells hlt
        obtain ⟨ma, mo, nv, hma, hmb, hnv, m0, m1, m2, m3⟩ := (HBV.out.below hb hB).cells hltb
        subst hla hma
        have zl : la < wr.heap.size := by have := hb.size; omega
        have zm : ma < wr.heap.size := by have := hb.size; omega
        obtain ⟨oa, oc, rfl⟩ := hov.slice
        obtain ⟨na, nc, rfl⟩ := hnv.slice
        have hbs : B ≤ wr.heap.size := by have := hb.size; omega
        have HSI := Lib.hid (fun (d : Nat) (os : Array Obj) => sameInts_any (cget a k).why (cget b k).why _ _ (Go.Sort.grow (redrawn wr d) os) ((hov.mono hbs).below (below_regrown wr d os) (Nat.le_refl _)) ((hnv.mono hbs).below (below_regrown wr d os) (Nat.le_refl _)) (below_regrown wr d os).size)
        have HALL := Lib.hid hall; have HB := Lib.hid hb
        obtain ⟨f, hf⟩ : ∃ f, f = cget a k := ⟨_, rfl⟩
        obtain ⟨g, hg⟩ : ∃ g, g = cget b k := ⟨_, rfl⟩
        rw [← hf, ← hg] at HSI
        rw [← hf] at l0 l1 l2 l3
        rw [← hg] at m0 m1 m2 m3
        have HFG : Hid (f ≠ g → sameCs a b = false) := Lib.hid fun h => sameCs_no (k := k) (by rw [← hf, ← hg]; exact h)
        have HFH : Hid (f = g → cget a k = cget b k) := Lib.hid fun h => by rw [← hf, ← hg]; exact h
        have hkI : ((k : Nat) : Int) < ((a.length : Nat) : Int) := by omega
        have hkJ : ((k : Nat) : Int) < ((b.length : Nat) : Int) := by omega
        clear hall hb hov hnv hf hg
        by_cases h1 : f.var = g.var
        · have HE1 := Lib.hid h1
          have e1 : (f.var != g.var) = false := bne_no h1
          clear h1
          by_cases h2 : f.value = g.value
          · have HE2 := Lib.hid h2
            have e2 : (f.value != g.value) = false := bne_no h2
            clear h2
            by_cases h4 : f.rule = g.rule
            · have HE4 := Lib.hid h4
              have e4 : (f.rule != g.rule) = false := bne_no h4
              clear h4
              cases h5 : sameI f.why g.why
              case false =>
                have HS : Hid (sameCs a b = false) := Lib.hid (HFG.out fun h => by rw [h] at h5; unfold sameI at h5; simp at h5)
                rw [h5] at HSI
                clear h5
                go_wp2_with fail
                refine wp_region_qb (by kernel_rfl) (by kernel_rfl) ?_
                repeat go_big_quiet_step ((with_reducible exact Gives.quiet (HSI.out _ _)))
                refine wpQuiet_nil ?_
                intro w2 hb2
                have HB2 := Lib.hid (HB.out.trans (hb2.mono HB.out.size))
                clear hb2
                go_wp2
                go_ret
                exact ⟨by rw [HS.out]; rfl, HB2.out⟩
              case true =>
                have HS : Hid (cget a k = cget b k) := Lib.hid (HFH.out (cut_ext HE1.out HE2.out HE4.out h5))
                rw [h5] at HSI
                clear h5
                go_wp2_with fail
                refine wp_region_qb (by kernel_rfl) (by kernel_rfl) ?_
                repeat go_big_quiet_step ((with_reducible exact Gives.quiet (HSI.out _ _)))
                refine wpQuiet_nil ?_
                intro w2 hb2
                have HB2 := Lib.hid (HB.out.trans (hb2.mono HB.out.size))
                clear hb2
                go_wp2
                go_roundw
                case rel => exact ⟨k + 1, by omega, by go_num, fun j hj => if h : j = k then h ▸ HS.out else HALL.out j (by omega), HB2.out⟩
                case measure => simp [intOf]; omega
            · have HS : Hid (sameCs a b = false) := Lib.hid (HFG.out fun h => h4 (by rw [h]))
              have e4 : (f.rule != g.rule) = true := bne_yes h4
              clear h4
              go_wp2_with fail
              refine wp_region_qb (by kernel_rfl) (by kernel_rfl) ?_
              repeat go_big_quiet_step ((with_reducible exact Gives.quiet (HSI.out _ _)))
              refine wpQuiet_nil ?_
              intro w2 hb2
              have HB2 := Lib.hid (HB.out.trans (hb2.mono HB.out.size))
              clear hb2
              go_wp2
              go_ret
              exact ⟨by rw [HS.out]; rfl, HB2.out⟩
          · have HS : Hid (sameCs a b = false) := Lib.hid (HFG.out fun h => h2 (by rw [h]))
            have e2 : (f.value != g.value) = true := bne_yes h2
            clear h2
            go_wp2_with fail
            refine wp_region_qb (by kernel_rfl) (by kernel_rfl) ?_
            repeat go_big_quiet_step ((with_reducible exact Gives.quiet (HSI.out _ _)))
            refine wpQuiet_nil ?_
            intro w2 hb2
            have HB2 := Lib.hid (HB.out.trans (hb2.mono HB.out.size))
            clear hb2
            go_wp2
            go_ret
            exact ⟨by rw [HS.out]; rfl, HB2.out⟩
        · have HS : Hid (sameCs a b = false) := Lib.hid (HFG.out fun h => h1 (by rw [h]))
          have e1 : (f.var != g.var) = true := bne_yes h1
          clear h1
          go_wp2_with fail
          refine wp_region_qb (by kernel_rfl) (by kernel_rfl) ?_
          repeat go_big_quiet_step ((with_reducible exact Gives.quiet (HSI.out _ _)))
          refine wpQuiet_nil ?_
          intro w2 hb2
          have HB2 := Lib.hid (HB.out.trans (hb2.mono HB.out.size))
          clear hb2
          go_wp2
          go_ret
          exact ⟨by rw [HS.out]; rfl, HB2.out⟩
      · have hk2 : k = a.length := by omega
        subst hk2
        have HS := Lib.hid (sameCs_yes HL.out hall); have HB := Lib.hid hb
        clear hall hb
        go_wp2
        go_ret
        exact ⟨by rw [HS.out]; rfl, HB.out⟩
  · have HS := Lib.hid (sameCs_len hl)
    have e1 : (((a.length : Nat) : Int) != ((b.length : Nat) : Int)) = true := by rw [int_bne]; simp [hl]
    have hl2 : ¬ ((a.length : Int) = (b.length : Int)) := by omega
    go_enter Tryz.func13, Tryz.ntmps13
    go_wp2
    go_ret
    exact ⟨by rw [HS.out]; rfl, Below.refl _ _⟩
end Go.Proofs.YtdmmegmkdhinjaaGreatDoor
