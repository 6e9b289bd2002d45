/- The law SetsSolves, walked. -/
import Derived.Test.YtilbbnjfaoldoaaDoorRefR
import Derived.Test.YtilbbnjfaoldoaaDoorLawB
namespace Go.Proofs.YtilbbnjfaoldoaaDoor
open Go Go.RowKit
attribute [local go_sem] cell_grow u64_sAnd u64_sOr u64_sDiff sDiff_all zeqI zneI sAnd_bit_zero sAnd_bit_zeroN sAnd_bit_nonzero rowOf_grow rowOk_grow rowOf_alloc rowOk_alloc

/-- How many elements are open in the first bounds. -/
def opnC (b : List Bnd) : Nat → Nat
  | 0 => 0
  | k + 1 => opnC b k + cntN (sDiff (bget b k).can (bget b k).inn) 12
theorem opnC_le (b : List Bnd) : ∀ k, opnC b k ≤ k * 12
  | 0 => Nat.le_refl _
  | k + 1 => by have := opnC_le b k; have := cntN_le (sDiff (bget b k).can (bget b k).inn) 12; unfold opnC; omega
set_option maxRecDepth 100000 in
set_option maxHeartbeats 1000000 in
theorem open_any (p : Prob) (bv rv : Value) (w : World) {B : Nat} (hbv : Bnds w B bv p.bounds) (hB : B ≤ w.heap.size) (hub : U64s p.bounds) (h9 : p.bounds.length ≤ 9) :
    Gives Tryd.prog 23 #[.agg #[bv, rv]] w (.int .i64 ((opnC p.bounds p.bounds.length : Nat) : Int)) := by
  unfold Gives
  have HBV := Lib.hid hbv; have HUB := Lib.hid hub
  obtain ⟨ba, bc, rfl⟩ := hbv.slice
  clear hbv hub
  have K0 := Lib.hid (heap_new0 w (.cells #[.slice ba p.bounds.length bc, rv] 25)); have HB0 := Lib.hid (Below.new1 w (.cells #[.slice ba p.bounds.length bc, rv] 25))
  go_enter Tryd.func23, Tryd.ntmps23
  go_wp2_with fail
  go_loopw [3, 4] (fun nv iv wr => ∃ k : Nat, k ≤ p.bounds.length ∧ iv = .int .i64 k ∧ nv = .int .i64 ((opnC p.bounds k : Nat) : Int) ∧ wr.heap[w.heap.size]? = some (.cells #[.slice ba p.bounds.length bc, rv] 25 (0, 0)) ∧ Below w.heap.size w wr) (fun _ iv _ => p.bounds.length - (intOf iv).toNat)
  case atStart => exact ⟨0, Nat.zero_le _, rfl, rfl, K0.out, HB0.out⟩
  case round =>
    clear K0 HB0
    obtain ⟨k, hk, rfl, rfl, k0, hb⟩ := hrel
    have z0 : w.heap.size < wr.heap.size := (Array.getElem?_eq_some_iff.1 k0).1
    have c0 : wr.cell? ⟨w.heap.size, 0, none⟩ = some (.slice ba p.bounds.length bc) := by rw [cell_of_row _ _ _ _ _ _ k0]; rfl
    have hoc := opnC_le p.bounds k
    have K0 := Lib.hid k0; have HB := Lib.hid hb
    by_cases hlt : k < p.bounds.length
    · obtain ⟨_, a', c', hae, _, _, hrow⟩ := HBV.out.below hb hB
      cases hae
      obtain ⟨vb, vo, rfl, hvB, hvcell⟩ := hrow (by omega)
      have q0 : wr.cell? ⟨vb, vo + k * 2, none⟩ = some (.int .u64 ((bget p.bounds k).inn : Nat)) := by rw [hvcell _ (by omega), bcellAt_inn]
      have q1 : wr.cell? ⟨vb, vo + k * 2 + 1, none⟩ = some (.int .u64 ((bget p.bounds k).can : Nat)) := by rw [← bcellAt_can]; exact hvcell (k * 2 + 1) (by omega)
      have zv : vb < wr.heap.size := by omega
      have hu1 := (HUB.out.get k).1
      have hu2 := (HUB.out.get k).2
      have HC := Lib.hid (fun (d : Nat) (os : Array Obj) => Gives.of_same (count_any (sDiff (bget p.bounds k).can (bget p.bounds k).inn) (Go.Sort.grow (redrawn wr d) os) hu2.diff))
      obtain ⟨c, hc⟩ : ∃ c, c = cntN (sDiff (bget p.bounds k).can (bget p.bounds k).inn) 12 := ⟨_, rfl⟩
      have hc12 : c ≤ 12 := by rw [hc]; exact cntN_le _ _
      have HS : Hid (opnC p.bounds (k + 1) = opnC p.bounds k + c) := Lib.hid (by rw [hc]; rfl)
      rw [← hc] at HC
      obtain ⟨n, hn⟩ : ∃ n, n = opnC p.bounds k := ⟨_, rfl⟩
      rw [← hn] at HS hoc ⊢
      clear hrow hvcell k0 hb hc hn
      go_wp2_with fail
      refine wp_region_qb (by kernel_rfl) (by kernel_rfl) ?_
      repeat go_big_quiet_step ((with_reducible exact Gives.quiet (HC.out _ _)))
      refine wpQuiet_nil ?_
      intro w4 hb4
      have HB4 := Lib.hid (HB.out.trans (hb4.mono HB.out.size)); have K4 := Lib.hid (heap_later K0.out hb4 z0)
      clear hb4 c0 q0 q1
      go_wp2
      go_roundw
      case rel => exact ⟨k + 1, by omega, by go_num, by rw [HS.out]; go_num, K4.out, HB4.out⟩
      case measure => simp [intOf]; omega
    · have hk2 : k = p.bounds.length := by omega
      subst hk2
      clear k0 hb
      go_wp2
      go_ret
      exact ⟨rfl, HB.out⟩
theorem inB_no {most : Int} (h : inB most 1 100 = false) : most < 1 ∨ 100 < most := by
  unfold inB at h
  rw [Bool.and_eq_false_iff, decide_eq_false_iff_not, decide_eq_false_iff_not] at h
  omega
theorem inB_lim {most : Int} (h : inB most 1 100 = true) : 1 ≤ most ∧ most ≤ 100 := by
  unfold inB at h
  simpa using h
theorem small_len {p : Prob} (h : smallOk p = true) : p.bounds.length ≤ 9 := by
  unfold smallOk at h
  simp only [Bool.and_eq_true, decide_eq_true_eq] at h
  exact h.1.1
theorem searchR_few {p : Prob} (hp : probOk p = true) (most : Int) : Few p.bounds.length (searchR p most) :=
  nodeR_few p hp most _ _ _ (padB_length (probOk_fit hp).2.1) (probOk_fit hp).2.2.2.2.pad (probOk_sub hp) (Few.start _)
theorem few_uss {w : World} {base : Nat} {v : Value} {n : Nat} {s : Fnd} (hf : Few n s) (hn : n ≤ 8) (h : SOwn w base v s.sols) : Uss w w.heap.size v s.sols :=
  h.uss (by have := hf.1; have := hf.2.1; omega) fun i hi => by
    have := (hf.2.2 (s.sols[i]) (List.getElem_mem hi)).1
    rw [show sget s.sols i = s.sols[i] by simp [sget, hi], this]; omega
/-- What a slice of nothing looks like. -/
theorem ints_empty {w : World} {B : Nat} {v : Value} (h : Ints w B v []) : ∃ a c, v = .slice a 0 c := by obtain ⟨a, c, h⟩ := h.slice; exact ⟨a, c, h⟩
set_option maxRecDepth 100000 in
set_option maxHeartbeats 4000000 in
theorem setsSolves_any (p : Prob) (most : Int) (bv rv : Value) (w : World) {B : Nat} (hbv : Bnds w B bv p.bounds) (hrv : Rls w B rv p.rules) (hB0 : 0 < B) (hB : B ≤ w.heap.size) (hub : U64s p.bounds) (hT : Tab w) :
    Gives Tryd.prog 5 #[.agg #[bv, rv], .int .i64 most] w (.bool true) := by
  unfold Gives
  have HBV := Lib.hid hbv; have HRV := Lib.hid hrv; have HT := Lib.hid hT; have HUB := Lib.hid hub
  have hbl := hbv.1
  have hrl := hrv.len
  have hw0 : 0 < w.heap.size := by omega
  obtain ⟨ba, bc, rfl⟩ := hbv.slice
  obtain ⟨ra, rc, rfl⟩ := hrv.slice
  clear hbv hrv hT hub
  have K0 := Lib.hid (heap_new0 w (.cells #[.slice ba p.bounds.length bc, .slice ra p.rules.length rc] 25)); have HB0 := Lib.hid (Below.new1 w (.cells #[.slice ba p.bounds.length bc, .slice ra p.rules.length rc] 25))
  go_enter Tryd.func5, Tryd.ntmps5
  go_wp2_with fail
  refine (small_any p _ _ _ (HBV.out.below HB0.out hB) (HRV.out.below HB0.out hB) (by simp; omega)).mono ?_
  rintro e w1 ⟨rfl, hb1⟩
  have HB1 := Lib.hid (HB0.out.trans (hb1.mono (by simp))); have K1 := Lib.hid (heap_later K0.out hb1 (by simp))
  clear hb1 K0 HB0
  have z1 : w.heap.size < w1.heap.size := (Array.getElem?_eq_some_iff.1 K1.out).1
  cases hsm : smallOk p
  case false =>
    clear hsm
    go_wp2_with fail
    refine (works_any _ (HT.out.below HB1.out hw0) (by have := HB1.out.size; omega)).mono ?_
    rintro e1 w9 ⟨rfl, hb9⟩
    have HF := Lib.hid (HB1.out.trans (hb9.mono HB1.out.size))
    clear hb9
    go_wp2
    go_ret
    exact ⟨rfl, HF.out⟩
  case true =>
    have hb9 : p.bounds.length ≤ 9 := small_len hsm
    clear hsm
    have c0 : w1.cell? ⟨w.heap.size, 0, none⟩ = some (.slice ba p.bounds.length bc) := by rw [cell_of_row _ _ _ _ _ _ K1.out]; rfl
    have c1 : w1.cell? ⟨w.heap.size, 1, none⟩ = some (.slice ra p.rules.length rc) := by rw [cell_of_row _ _ _ _ _ _ K1.out]; rfl
    go_wp2_with fail
    refine (open_any p _ _ w1 (HBV.out.below HB1.out hB) (by omega) HUB.out hb9).mono ?_
    rintro e w2 ⟨rfl, hb2⟩
    have HB2 := Lib.hid (HB1.out.trans (hb2.mono HB1.out.size)); have K2 := Lib.hid (heap_later K1.out hb2 z1)
    clear hb2 c0 c1
    have z2 : w.heap.size < w2.heap.size := (Array.getElem?_eq_some_iff.1 K2.out).1
    obtain ⟨on, hon⟩ : ∃ on, on = opnC p.bounds p.bounds.length := ⟨_, rfl⟩
    rw [← hon]
    clear hon
    by_cases h24 : (24 : Int) < ((on : Nat) : Int)
    · go_wp2_with fail
      refine (works_any _ (HT.out.below HB2.out hw0) (by have := HB2.out.size; omega)).mono ?_
      rintro e1 w9 ⟨rfl, hb9⟩
      have HF := Lib.hid (HB2.out.trans (hb9.mono HB2.out.size))
      clear hb9
      go_wp2
      go_ret
      exact ⟨rfl, HF.out⟩
    · have c0 : w2.cell? ⟨w.heap.size, 0, none⟩ = some (.slice ba p.bounds.length bc) := by rw [cell_of_row _ _ _ _ _ _ K2.out]; rfl
      have c1 : w2.cell? ⟨w.heap.size, 1, none⟩ = some (.slice ra p.rules.length rc) := by rw [cell_of_row _ _ _ _ _ _ K2.out]; rfl
      obtain ⟨cl, hcl⟩ : ∃ cl, cl = (coreR p).1.map natI := ⟨_, rfl⟩
      obtain ⟨ce, hce⟩ : ∃ ce, ce = (coreR p).2 := ⟨_, rfl⟩
      have HCL := Lib.hid hcl; have HCE := Lib.hid hce
      clear hcl hce
      cases hpo : probOk p
      case false =>
        have hno := solve_no p most _ _ w2 (HBV.out.below HB2.out hB) (HRV.out.below HB2.out hB) (by omega) HUB.out (by rw [hpo]; rfl)
        have hcr : coreR p = ([], 2) := by unfold coreR; rw [hpo]; rfl
        have HNO := Lib.hid hno; have HPO := Lib.hid hpo; have HCR := Lib.hid hcr
        clear hno hpo hcr
        go_wp2_with fail
        refine HNO.out.mono ?_
        rintro e w3 ⟨rfl, hb3⟩
        have HB3 := Lib.hid (HB2.out.trans (hb3.mono HB2.out.size)); have K3 := Lib.hid (heap_later K2.out hb3 z2)
        have z3 : w.heap.size < w3.heap.size := (Array.getElem?_eq_some_iff.1 K3.out).1
        clear hb3 c0 c1 HNO
        have c0 : w3.cell? ⟨w.heap.size, 0, none⟩ = some (.slice ba p.bounds.length bc) := by rw [cell_of_row _ _ _ _ _ _ K3.out]; rfl
        have c1 : w3.cell? ⟨w.heap.size, 1, none⟩ = some (.slice ra p.rules.length rc) := by rw [cell_of_row _ _ _ _ _ _ K3.out]; rfl
        go_wp2_with fail
        refine (core_any p _ _ w3 (HBV.out.below HB3.out hB) (HRV.out.below HB3.out hB) hB0 (by omega) HUB.out (HT.out.below HB3.out hw0)).mono ?_
        rintro e w4 ⟨cv, rfl, hci, hb4⟩
        rw [HCR.out] at hci ⊢
        obtain ⟨ca, cc, rfl⟩ := ints_empty hci
        have HB4 := Lib.hid (HB3.out.trans (hb4.mono HB3.out.size)); have K4 := Lib.hid (heap_later K3.out hb4 z3)
        have z4 : w.heap.size < w4.heap.size := (Array.getElem?_eq_some_iff.1 K4.out).1
        clear hb4 c0 c1 hci
        have c0 : w4.cell? ⟨w.heap.size, 0, none⟩ = some (.slice ba p.bounds.length bc) := by rw [cell_of_row _ _ _ _ _ _ K4.out]; rfl
        have c1 : w4.cell? ⟨w.heap.size, 1, none⟩ = some (.slice ra p.rules.length rc) := by rw [cell_of_row _ _ _ _ _ _ K4.out]; rfl
        go_wp2_with fail
        refine (refProb_any p _ _ _ (HBV.out.below HB4.out hB) (HRV.out.below HB4.out hB) (by omega) HUB.out).mono ?_
        rintro e w5 ⟨rfl, hb5⟩
        have HB5 := Lib.hid (HB4.out.trans (hb5.mono HB4.out.size))
        clear hb5 c0 c1
        rw [HPO.out]
        go_wp2_with fail
        refine (works_any _ (HT.out.below HB5.out hw0) (by have := HB5.out.size; omega)).mono ?_
        rintro e1 w9 ⟨rfl, hb9⟩
        have HF := Lib.hid (HB5.out.trans (hb9.mono HB5.out.size))
        clear hb9
        go_wp2
        go_ret
        exact ⟨rfl, HF.out⟩
      case true =>
        cases him : inB most 1 100
        case false =>
          have hno := solve_no p most _ _ w2 (HBV.out.below HB2.out hB) (HRV.out.below HB2.out hB) (by omega) HUB.out (by rw [hpo, him]; rfl)
          have hlim := inB_no him
          have HNO := Lib.hid hno; have HPO := Lib.hid hpo
          clear hno hpo him
          go_wp2_with fail
          refine HNO.out.mono ?_
          rintro e w3 ⟨rfl, hb3⟩
          have HB3 := Lib.hid (HB2.out.trans (hb3.mono HB2.out.size)); have K3 := Lib.hid (heap_later K2.out hb3 z2)
          have z3 : w.heap.size < w3.heap.size := (Array.getElem?_eq_some_iff.1 K3.out).1
          clear hb3 c0 c1 HNO
          have c0 : w3.cell? ⟨w.heap.size, 0, none⟩ = some (.slice ba p.bounds.length bc) := by rw [cell_of_row _ _ _ _ _ _ K3.out]; rfl
          have c1 : w3.cell? ⟨w.heap.size, 1, none⟩ = some (.slice ra p.rules.length rc) := by rw [cell_of_row _ _ _ _ _ _ K3.out]; rfl
          go_wp2_with fail
          refine (core_any p _ _ w3 (HBV.out.below HB3.out hB) (HRV.out.below HB3.out hB) hB0 (by omega) HUB.out (HT.out.below HB3.out hw0)).mono ?_
          rintro e w4 ⟨cv, rfl, hci, hb4⟩
          rw [← HCL.out] at hci
          rw [← HCE.out]
          obtain ⟨ca, cc, rfl⟩ := hci.slice
          have HB4 := Lib.hid (HB3.out.trans (hb4.mono HB3.out.size)); have K4 := Lib.hid (heap_later K3.out hb4 z3); have HCI := Lib.hid hci
          have z4 : w.heap.size < w4.heap.size := (Array.getElem?_eq_some_iff.1 K4.out).1
          clear hb4 c0 c1 hci
          have c0 : w4.cell? ⟨w.heap.size, 0, none⟩ = some (.slice ba p.bounds.length bc) := by rw [cell_of_row _ _ _ _ _ _ K4.out]; rfl
          have c1 : w4.cell? ⟨w.heap.size, 1, none⟩ = some (.slice ra p.rules.length rc) := by rw [cell_of_row _ _ _ _ _ _ K4.out]; rfl
          go_wp2_with fail
          refine (refProb_any p _ _ _ (HBV.out.below HB4.out hB) (HRV.out.below HB4.out hB) (by omega) HUB.out).mono ?_
          rintro e w5 ⟨rfl, hb5⟩
          have HB5 := Lib.hid (HB4.out.trans (hb5.mono HB4.out.size)); have K5 := Lib.hid (heap_later K4.out hb5 z4); have HCI5 := Lib.hid ((HCI.out.below hb5 (Nat.le_refl _)).mono hb5.size)
          have z5 : w.heap.size < w5.heap.size := (Array.getElem?_eq_some_iff.1 K5.out).1
          clear hb5 c0 c1 HCI
          rw [HPO.out]
          rcases hlim with hl | hl
          · have c0 : w5.cell? ⟨w.heap.size, 0, none⟩ = some (.slice ba p.bounds.length bc) := by rw [cell_of_row _ _ _ _ _ _ K5.out]; rfl
            have c1 : w5.cell? ⟨w.heap.size, 1, none⟩ = some (.slice ra p.rules.length rc) := by rw [cell_of_row _ _ _ _ _ _ K5.out]; rfl
            go_wp2_with fail
            refine (refCore_any p HPO.out _ _ _ (HBV.out.below HB5.out hB) (HRV.out.below HB5.out hB) (by have := HB5.out.size; omega)).mono ?_
            rintro e w8 ⟨cv2, rfl, hci2, hb8⟩
            rw [← HCL.out] at hci2
            rw [← HCE.out]
            have HB8 := Lib.hid (HB5.out.trans (hb8.mono HB5.out.size))
            have hsi := sameInts_any cl cl _ _ w8 ((HCI5.out.below hb8 (Nat.le_refl _)).mono hb8.size) hci2 (Nat.le_refl _)
            rw [show sameI cl cl = true by unfold sameI; simp] at hsi
            have HSI := Lib.hid hsi
            obtain ⟨ca2, cc2, rfl⟩ := hci2.slice
            clear hci2 hb8 hsi c0 c1
            go_wp2_with fail
            refine HSI.out.mono ?_
            rintro e w9 ⟨rfl, hb9⟩
            have HB9 := Lib.hid (HB8.out.trans (hb9.mono HB8.out.size))
            clear hb9 HSI
            go_wp2_with fail
            refine (works_any _ (HT.out.below HB9.out hw0) (by have := HB9.out.size; omega)).mono ?_
            rintro e1 w9 ⟨rfl, hb9⟩
            have HF := Lib.hid (HB9.out.trans (hb9.mono HB9.out.size))
            clear hb9
            go_wp2
            go_ret
            exact ⟨rfl, HF.out⟩
          · have hl2 : ¬ most < 1 := by omega
            have c0 : w5.cell? ⟨w.heap.size, 0, none⟩ = some (.slice ba p.bounds.length bc) := by rw [cell_of_row _ _ _ _ _ _ K5.out]; rfl
            have c1 : w5.cell? ⟨w.heap.size, 1, none⟩ = some (.slice ra p.rules.length rc) := by rw [cell_of_row _ _ _ _ _ _ K5.out]; rfl
            go_wp2_with fail
            refine (refCore_any p HPO.out _ _ _ (HBV.out.below HB5.out hB) (HRV.out.below HB5.out hB) (by have := HB5.out.size; omega)).mono ?_
            rintro e w8 ⟨cv2, rfl, hci2, hb8⟩
            rw [← HCL.out] at hci2
            rw [← HCE.out]
            have HB8 := Lib.hid (HB5.out.trans (hb8.mono HB5.out.size))
            have hsi := sameInts_any cl cl _ _ w8 ((HCI5.out.below hb8 (Nat.le_refl _)).mono hb8.size) hci2 (Nat.le_refl _)
            rw [show sameI cl cl = true by unfold sameI; simp] at hsi
            have HSI := Lib.hid hsi
            obtain ⟨ca2, cc2, rfl⟩ := hci2.slice
            clear hci2 hb8 hsi c0 c1
            go_wp2_with fail
            refine HSI.out.mono ?_
            rintro e w9 ⟨rfl, hb9⟩
            have HB9 := Lib.hid (HB8.out.trans (hb9.mono HB8.out.size))
            clear hb9 HSI
            go_wp2_with fail
            refine (works_any _ (HT.out.below HB9.out hw0) (by have := HB9.out.size; omega)).mono ?_
            rintro e1 w9 ⟨rfl, hb9⟩
            have HF := Lib.hid (HB9.out.trans (hb9.mono HB9.out.size))
            clear hb9
            go_wp2
            go_ret
            exact ⟨rfl, HF.out⟩
        case true =>
          have hlim := inB_lim him
          have hyes := solve_yes p most _ _ w2 (HBV.out.below HB2.out hB) (HRV.out.below HB2.out hB) hB0 (by omega) HUB.out (HT.out.below HB2.out hw0) hpo him
          have hfew := searchR_few hpo most
          have hn8 := (probOk_fit hpo).2.1
          obtain ⟨s, hs⟩ : ∃ s, s = searchR p most := ⟨_, rfl⟩
          rw [← hs] at hyes hfew
          have HYES := Lib.hid hyes; have HPO := Lib.hid hpo; have HS := Lib.hid hs; have HFEW := Lib.hid hfew
          clear hyes hpo him hs hfew
          go_wp2_with fail
          refine HYES.out.mono ?_
          rintro e w3 ⟨hsr, hb3⟩
          have HB3 := Lib.hid (HB2.out.trans (hb3.mono HB2.out.size)); have K3 := Lib.hid (heap_later K2.out hb3 z2)
          have z3 : w.heap.size < w3.heap.size := (Array.getElem?_eq_some_iff.1 K3.out).1
          clear hb3 c0 c1 HYES
          rcases hsr with ⟨ho, rfl⟩ | ⟨ho, sv, rfl, hso⟩
          · have HO := Lib.hid ho
            clear ho
            have c0 : w3.cell? ⟨w.heap.size, 0, none⟩ = some (.slice ba p.bounds.length bc) := by rw [cell_of_row _ _ _ _ _ _ K3.out]; rfl
            have c1 : w3.cell? ⟨w.heap.size, 1, none⟩ = some (.slice ra p.rules.length rc) := by rw [cell_of_row _ _ _ _ _ _ K3.out]; rfl
            go_wp2_with fail
            refine (core_any p _ _ w3 (HBV.out.below HB3.out hB) (HRV.out.below HB3.out hB) hB0 (by omega) HUB.out (HT.out.below HB3.out hw0)).mono ?_
            rintro e w4 ⟨cv, rfl, hci, hb4⟩
            rw [← HCL.out] at hci
            rw [← HCE.out]
            obtain ⟨ca, cc, rfl⟩ := hci.slice
            have HB4 := Lib.hid (HB3.out.trans (hb4.mono HB3.out.size)); have K4 := Lib.hid (heap_later K3.out hb4 z3); have HCI := Lib.hid hci; have HL34 := Lib.hid hb4
            have z4 : w.heap.size < w4.heap.size := (Array.getElem?_eq_some_iff.1 K4.out).1
            clear hb4 c0 c1 hci
            have c0 : w4.cell? ⟨w.heap.size, 0, none⟩ = some (.slice ba p.bounds.length bc) := by rw [cell_of_row _ _ _ _ _ _ K4.out]; rfl
            have c1 : w4.cell? ⟨w.heap.size, 1, none⟩ = some (.slice ra p.rules.length rc) := by rw [cell_of_row _ _ _ _ _ _ K4.out]; rfl
            go_wp2_with fail
            refine (refProb_any p _ _ _ (HBV.out.below HB4.out hB) (HRV.out.below HB4.out hB) (by omega) HUB.out).mono ?_
            rintro e w5 ⟨rfl, hb5⟩
            have HB5 := Lib.hid (HB4.out.trans (hb5.mono HB4.out.size)); have K5 := Lib.hid (heap_later K4.out hb5 z4); have HCI5 := Lib.hid ((HCI.out.below hb5 (Nat.le_refl _)).mono hb5.size); have HL35 := Lib.hid (HL34.out.trans (hb5.mono HL34.out.size))
            have z5 : w.heap.size < w5.heap.size := (Array.getElem?_eq_some_iff.1 K5.out).1
            clear hb5 c0 c1 HCI HL34
            rw [HPO.out]
            have hl1 : ¬ most < 1 := by omega
            have hl2 : ¬ 100 < most := by omega
            have c0 : w5.cell? ⟨w.heap.size, 0, none⟩ = some (.slice ba p.bounds.length bc) := by rw [cell_of_row _ _ _ _ _ _ K5.out]; rfl
            have c1 : w5.cell? ⟨w.heap.size, 1, none⟩ = some (.slice ra p.rules.length rc) := by rw [cell_of_row _ _ _ _ _ _ K5.out]; rfl
            go_wp2_with fail
            refine (refSolve_any p HPO.out most (by omega) _ _ w5 (HBV.out.below HB5.out hB) (HRV.out.below HB5.out hB) (by omega)).mono ?_
            rintro e w6 ⟨sv6, rfl, hso6, hb6⟩
            rw [← HS.out] at hso6 ⊢
            obtain ⟨v6a, v6c, rfl⟩ : ∃ a c, sv6 = .slice a s.sols.length c := by obtain ⟨cs0, hc0, _⟩ := hso6; exact own_form hc0
            rw [HO.out]
            have hn7 := Below.new1 w6 (.cells #[.slice v6a s.sols.length v6c, .int .i64 (s.nodes : Nat), .bool true] 50)
            have hb7 := hb6.trans (hn7.mono hb6.size)
            have K6 := Lib.hid (heap_later K5.out hb6 z5)
            have z6 : w.heap.size < w6.heap.size := (Array.getElem?_eq_some_iff.1 K6.out).1
            have HB7 := Lib.hid (HB5.out.trans (hb7.mono HB5.out.size)); have K7 := Lib.hid (heap_later K5.out hb7 z5); have HCI7 := Lib.hid ((HCI5.out.below hb7 (Nat.le_refl _)).mono hb7.size); have HL37 := Lib.hid (HL35.out.trans (hb7.mono HL35.out.size)); have HSO7 := Lib.hid (hso6.ck (CK.below hn7))
            clear hn7 hb7 hso6 hb6 c0 c1
            have c0 : w6.cell? ⟨w.heap.size, 0, none⟩ = some (.slice ba p.bounds.length bc) := by rw [cell_of_row _ _ _ _ _ _ K6.out]; rfl
            have c1 : w6.cell? ⟨w.heap.size, 1, none⟩ = some (.slice ra p.rules.length rc) := by rw [cell_of_row _ _ _ _ _ _ K6.out]; rfl
            go_wp2_with fail
            refine (refCore_any p HPO.out _ _ _ (HBV.out.below HB7.out hB) (HRV.out.below HB7.out hB) (by have := HB7.out.size; omega)).mono ?_
            rintro e w8 ⟨cv2, rfl, hci2, hb8⟩
            rw [← HCL.out] at hci2
            rw [← HCE.out]
            have HB8 := Lib.hid (HB7.out.trans (hb8.mono HB7.out.size))
            have hsi := sameInts_any cl cl _ _ w8 ((HCI7.out.below hb8 (Nat.le_refl _)).mono hb8.size) hci2 (Nat.le_refl _)
            rw [show sameI cl cl = true by unfold sameI; simp] at hsi
            have HSI := Lib.hid hsi
            obtain ⟨ca2, cc2, rfl⟩ := hci2.slice
            clear hci2 hb8 hsi c0 c1
            go_wp2_with fail
            refine HSI.out.mono ?_
            rintro e w9 ⟨rfl, hb9⟩
            have HB9 := Lib.hid (HB8.out.trans (hb9.mono HB8.out.size))
            clear hb9 HSI
            go_wp2_with fail
            refine (works_any _ (HT.out.below HB9.out hw0) (by have := HB9.out.size; omega)).mono ?_
            rintro e1 w9 ⟨rfl, hb9⟩
            have HF := Lib.hid (HB9.out.trans (hb9.mono HB9.out.size))
            clear hb9
            go_wp2
            go_ret
            exact ⟨rfl, HF.out⟩
          · obtain ⟨va, vc, rfl⟩ : ∃ a c, sv = .slice a s.sols.length c := by obtain ⟨cs0, hc0, _⟩ := hso; exact own_form hc0
            have HSO := Lib.hid hso
            clear hso
            have HO := Lib.hid ho
            clear ho
            have c0 : w3.cell? ⟨w.heap.size, 0, none⟩ = some (.slice ba p.bounds.length bc) := by rw [cell_of_row _ _ _ _ _ _ K3.out]; rfl
            have c1 : w3.cell? ⟨w.heap.size, 1, none⟩ = some (.slice ra p.rules.length rc) := by rw [cell_of_row _ _ _ _ _ _ K3.out]; rfl
            go_wp2_with fail
            refine (core_any p _ _ w3 (HBV.out.below HB3.out hB) (HRV.out.below HB3.out hB) hB0 (by omega) HUB.out (HT.out.below HB3.out hw0)).mono ?_
            rintro e w4 ⟨cv, rfl, hci, hb4⟩
            rw [← HCL.out] at hci
            rw [← HCE.out]
            obtain ⟨ca, cc, rfl⟩ := hci.slice
            have HB4 := Lib.hid (HB3.out.trans (hb4.mono HB3.out.size)); have K4 := Lib.hid (heap_later K3.out hb4 z3); have HCI := Lib.hid hci; have HL34 := Lib.hid hb4
            have z4 : w.heap.size < w4.heap.size := (Array.getElem?_eq_some_iff.1 K4.out).1
            clear hb4 c0 c1 hci
            have c0 : w4.cell? ⟨w.heap.size, 0, none⟩ = some (.slice ba p.bounds.length bc) := by rw [cell_of_row _ _ _ _ _ _ K4.out]; rfl
            have c1 : w4.cell? ⟨w.heap.size, 1, none⟩ = some (.slice ra p.rules.length rc) := by rw [cell_of_row _ _ _ _ _ _ K4.out]; rfl
            go_wp2_with fail
            refine (refProb_any p _ _ _ (HBV.out.below HB4.out hB) (HRV.out.below HB4.out hB) (by omega) HUB.out).mono ?_
            rintro e w5 ⟨rfl, hb5⟩
            have HB5 := Lib.hid (HB4.out.trans (hb5.mono HB4.out.size)); have K5 := Lib.hid (heap_later K4.out hb5 z4); have HCI5 := Lib.hid ((HCI.out.below hb5 (Nat.le_refl _)).mono hb5.size); have HL35 := Lib.hid (HL34.out.trans (hb5.mono HL34.out.size))
            have z5 : w.heap.size < w5.heap.size := (Array.getElem?_eq_some_iff.1 K5.out).1
            clear hb5 c0 c1 HCI HL34
            rw [HPO.out]
            have hl1 : ¬ most < 1 := by omega
            have hl2 : ¬ 100 < most := by omega
            have c0 : w5.cell? ⟨w.heap.size, 0, none⟩ = some (.slice ba p.bounds.length bc) := by rw [cell_of_row _ _ _ _ _ _ K5.out]; rfl
            have c1 : w5.cell? ⟨w.heap.size, 1, none⟩ = some (.slice ra p.rules.length rc) := by rw [cell_of_row _ _ _ _ _ _ K5.out]; rfl
            go_wp2_with fail
            refine (refSolve_any p HPO.out most (by omega) _ _ w5 (HBV.out.below HB5.out hB) (HRV.out.below HB5.out hB) (by omega)).mono ?_
            rintro e w6 ⟨sv6, rfl, hso6, hb6⟩
            rw [← HS.out] at hso6 ⊢
            obtain ⟨v6a, v6c, rfl⟩ : ∃ a c, sv6 = .slice a s.sols.length c := by obtain ⟨cs0, hc0, _⟩ := hso6; exact own_form hc0
            rw [HO.out]
            have hn7 := Below.new1 w6 (.cells #[.slice v6a s.sols.length v6c, .int .i64 (s.nodes : Nat), .bool false] 50)
            have hb7 := hb6.trans (hn7.mono hb6.size)
            have K6 := Lib.hid (heap_later K5.out hb6 z5)
            have z6 : w.heap.size < w6.heap.size := (Array.getElem?_eq_some_iff.1 K6.out).1
            have HB7 := Lib.hid (HB5.out.trans (hb7.mono HB5.out.size)); have K7 := Lib.hid (heap_later K5.out hb7 z5); have HCI7 := Lib.hid ((HCI5.out.below hb7 (Nat.le_refl _)).mono hb7.size); have HL37 := Lib.hid (HL35.out.trans (hb7.mono HL35.out.size)); have HSO7 := Lib.hid (hso6.ck (CK.below hn7))
            clear hn7 hb7 hso6 hb6 c0 c1
            have hss := sameSets_any s.sols s.sols _ _ _ (few_uss HFEW.out hn8 (HSO.out.ck (CK.below HL37.out))) (few_uss HFEW.out hn8 HSO7.out) (Nat.le_refl _)
            rw [show sameS s.sols s.sols = true by unfold sameS; simp] at hss
            have HSS := Lib.hid hss
            clear hss
            have kw := heap_new0 w6 (.cells #[.slice v6a s.sols.length v6c, .int .i64 (s.nodes : Nat), .bool false] 50)
            have KW := Lib.hid kw
            clear kw
            go_wp2_with fail
            refine HSS.out.mono ?_
            rintro e wB ⟨rfl, hbB⟩
            have KWB := Lib.hid (heap_later KW.out hbB (by simp))
            have d1 : wB.cell? ⟨w6.heap.size, 1, none⟩ = some (.int .i64 (s.nodes : Nat)) := by rw [cell_of_row _ _ _ _ _ _ KWB.out]; rfl
            have zB : w6.heap.size < wB.heap.size := (Array.getElem?_eq_some_iff.1 KWB.out).1
            have HBB := Lib.hid (HB7.out.trans (hbB.mono HB7.out.size)); have KB := Lib.hid (heap_later K7.out hbB (by simp; omega)); have HCIB := Lib.hid ((HCI7.out.below hbB (Nat.le_refl _)).mono hbB.size)
            have zwB : w.heap.size < wB.heap.size := (Array.getElem?_eq_some_iff.1 KB.out).1
            clear hbB HSS KW
            have c0 : wB.cell? ⟨w.heap.size, 0, none⟩ = some (.slice ba p.bounds.length bc) := by rw [cell_of_row _ _ _ _ _ _ KB.out]; rfl
            have c1 : wB.cell? ⟨w.heap.size, 1, none⟩ = some (.slice ra p.rules.length rc) := by rw [cell_of_row _ _ _ _ _ _ KB.out]; rfl
            go_wp2_with fail
            refine (refCore_any p HPO.out _ _ _ (HBV.out.below HBB.out hB) (HRV.out.below HBB.out hB) (by have := HBB.out.size; omega)).mono ?_
            rintro e w8 ⟨cv2, rfl, hci2, hb8⟩
            rw [← HCL.out] at hci2
            rw [← HCE.out]
            have HB8 := Lib.hid (HBB.out.trans (hb8.mono HBB.out.size))
            have hsi := sameInts_any cl cl _ _ w8 ((HCIB.out.below hb8 (Nat.le_refl _)).mono hb8.size) hci2 (Nat.le_refl _)
            rw [show sameI cl cl = true by unfold sameI; simp] at hsi
            have HSI := Lib.hid hsi
            obtain ⟨ca2, cc2, rfl⟩ := hci2.slice
            clear hci2 hb8 hsi c0 c1
            go_wp2_with fail
            refine HSI.out.mono ?_
            rintro e w9 ⟨rfl, hb9⟩
            have HB9 := Lib.hid (HB8.out.trans (hb9.mono HB8.out.size))
            clear hb9 HSI
            go_wp2_with fail
            refine (works_any _ (HT.out.below HB9.out hw0) (by have := HB9.out.size; omega)).mono ?_
            rintro e1 w9 ⟨rfl, hb9⟩
            have HF := Lib.hid (HB9.out.trans (hb9.mono HB9.out.size))
            clear hb9
            go_wp2
            go_ret
            exact ⟨rfl, HF.out⟩
end Go.Proofs.YtilbbnjfaoldoaaDoor
