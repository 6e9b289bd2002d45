/- The law SetsFollows, walked. -/
import Derived.Test.YtilbbnjfaoldoaaDoorBI
namespace Go.Proofs.YtilbbnjfaoldoaaDoor
open Go Go.RowKit
attribute [local go_sem] cell_grow u64_sAnd u64_sOr u64_sDiff sDiff_all zeqI zneI sAnd_bit_zero sAnd_bit_zeroN sAnd_bit_nonzero rowOf_grow rowOk_grow rowOf_alloc rowOk_alloc

def askedN (p : Prob) (fv fe fr : Int) (yn : Nat) : Bool := inB fr 0 (p.rules.length - 1) && ihas (rget p.rules fr.toNat).vars fv && inB fe 0 11 && !decide (0 < yn)
theorem inB_no1 {n l h : Int} (hn : n < l) : inB n l h = false := by unfold inB; rw [decide_eq_false (by omega)]; rfl
theorem inB_no2 {n l h : Int} (hn : h < n) : inB n l h = false := by unfold inB; rw [decide_eq_false (p := n ≤ h) (by omega), Bool.and_false]
theorem inB_yes {n l h : Int} (h1 : l ≤ n) (h2 : n ≤ h) : inB n l h = true := by unfold inB; rw [decide_eq_true h1, decide_eq_true h2]; rfl
set_option maxRecDepth 100000 in
set_option maxHeartbeats 2000000 in
theorem lawAsked_any (p : Prob) (fv fe fr : Int) (fi : Bool) (ya : Option Addr) (yn yc : Nat) (bv rv : Value) (w : World) {B : Nat} (hbv : Bnds w B bv p.bounds) (hrv : Rls w B rv p.rules) (hB : B ≤ w.heap.size) :
    Gives Tryd.prog 31 #[.agg #[bv, rv], .agg #[.int .i64 fv, .int .i64 fe, .bool fi, .int .i64 fr, .slice ya yn yc]] w (.bool (askedN p fv fe fr yn)) := by
  unfold Gives
  have HRV := Lib.hid hrv
  have hrl := hrv.len
  obtain ⟨ba, bc, rfl⟩ := hbv.slice
  obtain ⟨ra, rc, rfl⟩ := hrv.slice
  clear hbv hrv
  have HB0 := Lib.hid (Below.new2 w (.cells #[.slice ba p.bounds.length bc, .slice ra p.rules.length rc] 25) (.cells #[.int .i64 fv, .int .i64 fe, .bool fi, .int .i64 fr, .slice ya yn yc] 56))
  by_cases h1 : fr < 0
  · have HN : Hid (askedN p fv fe fr yn = false) := Lib.hid (by unfold askedN; rw [inB_no1 h1]; rfl)
    go_enter Tryd.func31, Tryd.ntmps31
    go_wp2
    go_ret
    exact ⟨by rw [HN.out]; rfl, HB0.out⟩
  obtain ⟨j, rfl⟩ : ∃ j : Nat, fr = j := ⟨fr.toNat, by omega⟩
  by_cases h2 : j < p.rules.length
  case neg =>
    have HN : Hid (askedN p fv fe j yn = false) := Lib.hid (by unfold askedN; rw [inB_no2 (by omega)]; rfl)
    have h2i : ¬ (j : Int) < ((p.rules.length : Nat) : Int) := by omega
    have h2j : decide (((p.rules.length : Nat) : Int) ≤ (j : Int)) = true := by simp; omega
    go_enter Tryd.func31, Tryd.ntmps31
    go_wp2
    go_ret
    exact ⟨by rw [HN.out]; rfl, HB0.out⟩
  have h2i : ¬ (((p.rules.length : Nat) : Int) ≤ (j : Int)) := by omega
  by_cases h3 : fe < 0
  · have HN : Hid (askedN p fv fe j yn = false) := Lib.hid (by unfold askedN; rw [inB_no1 h3, Bool.and_false]; rfl)
    go_enter Tryd.func31, Tryd.ntmps31
    go_wp2
    go_ret
    exact ⟨by rw [HN.out]; rfl, HB0.out⟩
  by_cases h4 : 12 ≤ fe
  · have HN : Hid (askedN p fv fe j yn = false) := Lib.hid (by unfold askedN; rw [inB_no2 (show (11 : Int) < fe by omega), Bool.and_false]; rfl)
    go_enter Tryd.func31, Tryd.ntmps31
    go_wp2
    go_ret
    exact ⟨by rw [HN.out]; rfl, HB0.out⟩
  by_cases h5 : 0 < yn
  · have HN : Hid (askedN p fv fe j yn = false) := Lib.hid (by unfold askedN; rw [decide_eq_true h5, Bool.not_true, Bool.and_false])
    have h5i : (0 : Int) < ((yn : Nat) : Int) := by omega
    go_enter Tryd.func31, Tryd.ntmps31
    go_wp2
    go_ret
    exact ⟨by rw [HN.out]; rfl, HB0.out⟩
  have h50 : yn = 0 := by omega
  subst h50
  have HA : Hid (askedN p fv fe j 0 = ihas (rget p.rules j).vars fv) := Lib.hid (by
    unfold askedN
    rw [inB_yes (by omega) (by omega), inB_yes (show (0 : Int) ≤ fe by omega) (by omega), Int.toNat_natCast]
    simp)
  obtain ⟨rb, ro, vv, rfl, hrb, hvv, q0, q1, q2, q3⟩ := (HRV.out.below HB0.out hB).cells h2
  obtain ⟨va, vc, rfl⟩ := hvv.slice
  have HVV := Lib.hid hvv
  have hvl := hvv.1
  clear hvv
  go_enter Tryd.func31, Tryd.ntmps31
  go_wp2_with fail
  refine abs_wp (fun W => W.heap[w.heap.size + 1]? = some (.cells #[.int .i64 fv, .int .i64 fe, .bool fi, .int .i64 j, .slice ya 0 yc] 56 (0, 0)) ∧ W.heap[w.heap.size + 2]? = some (.cells #[.int .i64 (rget p.rules j).kind, .slice va (rget p.rules j).vars.length vc, .int .i64 (rget p.rules j).low, .int .i64 (rget p.rules j).high] 63 (0, 0)) ∧ Below w.heap.size w W ∧ Ints W B (.slice va (rget p.rules j).vars.length vc) (rget p.rules j).vars)
    ⟨(heap_new3 _ _ _ _).2.1, (heap_new3 _ _ _ _).2.2, Below.new3 _ _ _ _, HVV.out.below (Below.new1 _ _) (by simp; omega)⟩ ?_
  clear q0 q1 q2 q3 HVV
  rintro W ⟨k1, k2, hb, hvv⟩
  have HVV := Lib.hid hvv
  clear hvv
  have K1 := Lib.hid k1; have K2 := Lib.hid k2; have HB := Lib.hid hb
  have c1 : W.cell? ⟨w.heap.size + 2, 1, none⟩ = some (.slice va (rget p.rules j).vars.length vc) := by rw [cell_of_row _ _ _ _ _ _ k2]; rfl
  clear k1 k2 hb
  go_loopw [6] (fun i wr => ∃ k : Nat, k ≤ (rget p.rules j).vars.length ∧ i = .int .i64 k ∧ (∀ q, q < k → iget (rget p.rules j).vars q ≠ fv) ∧ Below W.heap.size W wr) (fun i _ => (rget p.rules j).vars.length - (intOf i).toNat)
  case atStart => exact ⟨0, Nat.zero_le _, rfl, fun j hj => absurd hj (Nat.not_lt_zero _), Below.refl _ _⟩
  case round =>
    clear c1
    obtain ⟨k, hk, rfl, hall, hb⟩ := hrel
    have z2 : w.heap.size + 2 < W.heap.size := (Array.getElem?_eq_some_iff.1 K2.out).1
    have k1 := heap_later K1.out hb (by omega)
    have k2 := heap_later K2.out hb z2
    have c0 : wr.cell? ⟨w.heap.size + 1, 0, none⟩ = some (.int .i64 fv) := by rw [cell_of_row _ _ _ _ _ _ k1]; rfl
    have c1 : wr.cell? ⟨w.heap.size + 2, 1, none⟩ = some (.slice va (rget p.rules j).vars.length vc) := by rw [cell_of_row _ _ _ _ _ _ k2]; rfl
    have y1 : w.heap.size + 1 < wr.heap.size := (Array.getElem?_eq_some_iff.1 k1).1
    have y2 : w.heap.size + 2 < wr.heap.size := (Array.getElem?_eq_some_iff.1 k2).1
    have HALL := Lib.hid hall; have HBW := Lib.hid hb
    clear hall k1 k2
    by_cases hlt : k < (rget p.rules j).vars.length
    · obtain ⟨_, a', c', hae, _, _, hrow⟩ := HVV.out.below hb (by omega)
      cases hae
      obtain ⟨b, off, rfl, hbB, hcell⟩ := hrow (by omega)
      have d0 := hcell k (by omega)
      dsimp only at d0
      have zb : b < wr.heap.size := by omega
      clear hrow hcell hb
      by_cases he : iget (rget p.rules j).vars k = fv
      · have HN := Lib.hid (ihas_at hlt he)
        have e1 : (iget (rget p.rules j).vars k == fv) = true := by rw [he]; simp
        clear he
        go_wp2_with fail
        refine wp_region_qb (by kernel_rfl) (by kernel_rfl) ?_
        repeat go_big_quiet_step (fail)
        refine wpQuiet_nil ?_
        intro w4 hb4
        have HB4 := Lib.hid (HB.out.trans ((HBW.out.trans (hb4.mono HBW.out.size)).mono HB.out.size))
        clear hb4
        go_wp2
        go_ret
        exact ⟨by rw [HA.out, HN.out]; rfl, HB4.out⟩
      · have HE := Lib.hid he
        have e1 : (iget (rget p.rules j).vars k == fv) = false := by simp [he]
        clear he
        go_wp2_with fail
        refine wp_region_qb (by kernel_rfl) (by kernel_rfl) ?_
        repeat go_big_quiet_step (fail)
        refine wpQuiet_nil ?_
        intro w4 hb4
        have HB4 := Lib.hid (HBW.out.trans (hb4.mono HBW.out.size))
        clear hb4
        go_wp2
        go_roundw
        case rel => exact ⟨k + 1, by omega, by go_num, fun j hj => if h : j = k then h ▸ HE.out else HALL.out j (by omega), HB4.out⟩
        case measure => simp [intOf]; omega
    · have hk2 : k = (rget p.rules j).vars.length := by omega
      subst hk2
      have HY := Lib.hid (ihas_all_no HALL.out)
      clear hb
      go_wp2
      go_ret
      exact ⟨by rw [HA.out, HY.out]; rfl, HB.out.trans (HBW.out.mono HB.out.size)⟩
theorem possB_pad {b : List Bnd} {v : Nat} (e : Nat) (i : Bool) (r : Rl) (hv : v < b.length) : possB (withB (padB b) v e i) r = possB (withB b v e i) r := by
  unfold possB
  congr 1
  unfold ofB
  apply List.map_congr_left
  intro x _
  have hp : v < (padB b).length := by unfold padB; simp; omega
  rw [bget_withB _ _ _ _ hp, bget_withB _ _ _ _ hv, bget_pad, bget_pad]
theorem askedOk_eq (p : Prob) (f : Fact) : askedOk p f = (probOk p && askedN p f.var f.elem f.rule f.why.length) := by
  unfold askedOk aboutB askedN
  simp only [Bool.and_assoc]
theorem askedN_nat {p : Prob} {fv fe fr : Int} {yn : Nat} (hp : probOk p = true) (h : askedN p fv fe fr yn = true) : ∃ j v e : Nat, fr = j ∧ j < p.rules.length ∧ fv = v ∧ v < p.bounds.length ∧ fe = e ∧ e < 12 ∧ yn = 0 := by
  simp only [askedN, Bool.and_eq_true] at h
  obtain ⟨⟨⟨h1, h2⟩, h3⟩, h4⟩ := h
  obtain ⟨j, hj, hj2⟩ := inB_nat h1
  obtain ⟨e, he, he2⟩ := inB_nat h3
  obtain ⟨i, hi, hi2⟩ := ihas_get h2
  have hjl : j < p.rules.length := by omega
  rw [hj] at hi hi2
  have hr := probOk_range hp j hjl i (by simpa using hi)
  simp only [Int.toNat_natCast] at hi2
  rw [hi2] at hr
  simp only [Bool.not_eq_true', decide_eq_false_iff_not] at h4
  exact ⟨j, fv.toNat, e, hj, hjl, by omega, by omega, he, by omega, by omega⟩
set_option maxRecDepth 100000 in
set_option maxHeartbeats 2000000 in
theorem setsFollows_any (p : Prob) (f : Fact) (bv rv yv : Value) (w : World) {B : Nat} (hbv : Bnds w B bv p.bounds) (hrv : Rls w B rv p.rules) (hyv : Ints w B yv f.why) (hB : B ≤ w.heap.size) (hub : U64s p.bounds) (hT : Tab w) (hw0 : 0 < w.heap.size) :
    Gives Tryd.prog 6 #[.agg #[bv, rv], .agg #[.int .i64 f.var, .int .i64 f.elem, .bool f.inn, .int .i64 f.rule, yv]] w (.bool true) := by
  unfold Gives
  have HBV := Lib.hid hbv; have HRV := Lib.hid hrv; have HYV := Lib.hid hyv; have HT := Lib.hid hT; have HUB := Lib.hid hub
  have hbl := hbv.1
  have hrl := hrv.len
  have hyl := hyv.1
  obtain ⟨ba, bc, rfl⟩ := hbv.slice
  obtain ⟨ra, rc, rfl⟩ := hrv.slice
  obtain ⟨ya, yc, rfl⟩ := hyv.slice
  clear hbv hrv hyv hT hub
  obtain ⟨fv, fe, fi, fr, fw⟩ := f
  dsimp only at hyl ⊢
  dsimp only at HYV
  obtain ⟨ak, hak⟩ : ∃ ak, askedN p fv fe fr fw.length = ak := ⟨_, rfl⟩
  obtain ⟨po, hpo⟩ : ∃ po, probOk p = po := ⟨_, rfl⟩
  have HAO : Hid (askedOk p ⟨fv, fe, fi, fr, fw⟩ = (po && ak)) := Lib.hid (by rw [askedOk_eq, hpo, hak])
  have hn2 := heap_new2 w (.cells #[.slice ba p.bounds.length bc, .slice ra p.rules.length rc] 25) (.cells #[.int .i64 fv, .int .i64 fe, .bool fi, .int .i64 fr, .slice ya fw.length yc] 56)
  have K0 := Lib.hid hn2.1; have F0 := Lib.hid hn2.2
  have HB0 := Lib.hid (Below.new2 w (.cells #[.slice ba p.bounds.length bc, .slice ra p.rules.length rc] 25) (.cells #[.int .i64 fv, .int .i64 fe, .bool fi, .int .i64 fr, .slice ya fw.length yc] 56))
  have HAK := Lib.hid hak; have HPO := Lib.hid hpo
  clear hn2 hak hpo
  go_enter Tryd.func6, Tryd.ntmps6
  go_wp2_with fail
  refine (small_any p _ _ _ (HBV.out.below HB0.out hB) (HRV.out.below HB0.out hB) (by simp; omega)).mono ?_
  rintro e w1 ⟨rfl, hb1⟩
  have HB1 := Lib.hid (HB0.out.trans (hb1.mono (by simp; omega))); have K1 := Lib.hid (heap_later K0.out hb1 (by simp; omega)); have F1 := Lib.hid (heap_later F0.out hb1 (by simp))
  clear hb1 K0 F0 HB0
  have z1 : w.heap.size + 1 < w1.heap.size := (Array.getElem?_eq_some_iff.1 F1.out).1
  cases hsm : smallOk p
  case false =>
    clear hsm
    go_wp2_with fail
    refine (works_any _ (HT.out.below HB1.out hw0) (by have := HB1.out.size; omega)).mono ?_
    rintro e1 w9 ⟨rfl, hb9⟩
    have HF := Lib.hid (HB1.out.trans (hb9.mono HB1.out.size))
    clear hb9
    go_wp2
    go_ret
    exact ⟨rfl, HF.out⟩
  case true =>
    clear hsm
    have c0 : w1.cell? ⟨w.heap.size, 0, none⟩ = some (.slice ba p.bounds.length bc) := by rw [cell_of_row _ _ _ _ _ _ K1.out]; rfl
    have c1 : w1.cell? ⟨w.heap.size, 1, none⟩ = some (.slice ra p.rules.length rc) := by rw [cell_of_row _ _ _ _ _ _ K1.out]; rfl
    have d0 : w1.cell? ⟨w.heap.size + 1, 0, none⟩ = some (.int .i64 fv) := by rw [cell_of_row _ _ _ _ _ _ F1.out]; rfl
    have d1 : w1.cell? ⟨w.heap.size + 1, 1, none⟩ = some (.int .i64 fe) := by rw [cell_of_row _ _ _ _ _ _ F1.out]; rfl
    have d2 : w1.cell? ⟨w.heap.size + 1, 2, none⟩ = some (.bool fi) := by rw [cell_of_row _ _ _ _ _ _ F1.out]; rfl
    have d3 : w1.cell? ⟨w.heap.size + 1, 3, none⟩ = some (.int .i64 fr) := by rw [cell_of_row _ _ _ _ _ _ F1.out]; rfl
    have d4 : w1.cell? ⟨w.heap.size + 1, 4, none⟩ = some (.slice ya fw.length yc) := by rw [cell_of_row _ _ _ _ _ _ F1.out]; rfl
    by_cases h9 : fw.length ≤ 9
    case neg =>
      have h9i : (9 : Int) < ((fw.length : Nat) : Int) := by omega
      clear h9
      go_wp2_with fail
      refine (works_any _ (HT.out.below HB1.out hw0) (by have := HB1.out.size; omega)).mono ?_
      rintro e1 w9 ⟨rfl, hb9⟩
      have HF := Lib.hid (HB1.out.trans (hb9.mono HB1.out.size))
      clear hb9
      go_wp2
      go_ret
      exact ⟨rfl, HF.out⟩
    case pos =>
      have h9i : ¬ (9 : Int) < ((fw.length : Nat) : Int) := by omega
      go_wp2_with fail
      refine (asksFollows_any p ⟨fv, fe, fi, fr, fw⟩ _ _ _ _ (HBV.out.below HB1.out hB) (HRV.out.below HB1.out hB) (HYV.out.below HB1.out hB) (by omega) HUB.out (HT.out.below HB1.out hw0) (by omega)).mono ?_
      rintro e w2 ⟨rfl, hb2⟩
      have HB2 := Lib.hid (HB1.out.trans (hb2.mono HB1.out.size)); have K2 := Lib.hid (heap_later K1.out hb2 (by omega)); have F2 := Lib.hid (heap_later F1.out hb2 z1)
      clear hb2 c0 c1 d0 d1 d2 d3 d4 h9i
      have z2 : w.heap.size + 1 < w2.heap.size := (Array.getElem?_eq_some_iff.1 F2.out).1
      have c0 : w2.cell? ⟨w.heap.size, 0, none⟩ = some (.slice ba p.bounds.length bc) := by rw [cell_of_row _ _ _ _ _ _ K2.out]; rfl
      have c1 : w2.cell? ⟨w.heap.size, 1, none⟩ = some (.slice ra p.rules.length rc) := by rw [cell_of_row _ _ _ _ _ _ K2.out]; rfl
      have d0 : w2.cell? ⟨w.heap.size + 1, 0, none⟩ = some (.int .i64 fv) := by rw [cell_of_row _ _ _ _ _ _ F2.out]; rfl
      have d1 : w2.cell? ⟨w.heap.size + 1, 1, none⟩ = some (.int .i64 fe) := by rw [cell_of_row _ _ _ _ _ _ F2.out]; rfl
      have d2 : w2.cell? ⟨w.heap.size + 1, 2, none⟩ = some (.bool fi) := by rw [cell_of_row _ _ _ _ _ _ F2.out]; rfl
      have d3 : w2.cell? ⟨w.heap.size + 1, 3, none⟩ = some (.int .i64 fr) := by rw [cell_of_row _ _ _ _ _ _ F2.out]; rfl
      have d4 : w2.cell? ⟨w.heap.size + 1, 4, none⟩ = some (.slice ya fw.length yc) := by rw [cell_of_row _ _ _ _ _ _ F2.out]; rfl
      go_wp2_with fail
      refine (refProb_any p _ _ _ (HBV.out.below HB2.out hB) (HRV.out.below HB2.out hB) (by omega) HUB.out).mono ?_
      rintro e w3 ⟨rfl, hb3⟩
      have HB3 := Lib.hid (HB2.out.trans (hb3.mono HB2.out.size)); have K3 := Lib.hid (heap_later K2.out hb3 (by omega)); have F3 := Lib.hid (heap_later F2.out hb3 z2)
      clear hb3 c0 c1 d0 d1 d2 d3 d4
      have z3 : w.heap.size + 1 < w3.heap.size := (Array.getElem?_eq_some_iff.1 F3.out).1
      have c0 : w3.cell? ⟨w.heap.size, 0, none⟩ = some (.slice ba p.bounds.length bc) := by rw [cell_of_row _ _ _ _ _ _ K3.out]; rfl
      have c1 : w3.cell? ⟨w.heap.size, 1, none⟩ = some (.slice ra p.rules.length rc) := by rw [cell_of_row _ _ _ _ _ _ K3.out]; rfl
      have d0 : w3.cell? ⟨w.heap.size + 1, 0, none⟩ = some (.int .i64 fv) := by rw [cell_of_row _ _ _ _ _ _ F3.out]; rfl
      have d1 : w3.cell? ⟨w.heap.size + 1, 1, none⟩ = some (.int .i64 fe) := by rw [cell_of_row _ _ _ _ _ _ F3.out]; rfl
      have d2 : w3.cell? ⟨w.heap.size + 1, 2, none⟩ = some (.bool fi) := by rw [cell_of_row _ _ _ _ _ _ F3.out]; rfl
      have d3 : w3.cell? ⟨w.heap.size + 1, 3, none⟩ = some (.int .i64 fr) := by rw [cell_of_row _ _ _ _ _ _ F3.out]; rfl
      have d4 : w3.cell? ⟨w.heap.size + 1, 4, none⟩ = some (.slice ya fw.length yc) := by rw [cell_of_row _ _ _ _ _ _ F3.out]; rfl
      rw [HPO.out]
      cases po
      case false =>
        rw [show errOf (askedOk p ⟨fv, fe, fi, fr, fw⟩) = 2 by rw [HAO.out]; rfl, show askedR p ⟨fv, fe, fi, fr, fw⟩ = false by unfold askedR; rw [HAO.out]; rfl]
        go_wp2_with fail
        refine (works_any _ (HT.out.below HB3.out hw0) (by have := HB3.out.size; omega)).mono ?_
        rintro e1 w9 ⟨rfl, hb9⟩
        have HF := Lib.hid (HB3.out.trans (hb9.mono HB3.out.size))
        clear hb9
        go_wp2
        go_ret
        exact ⟨rfl, HF.out⟩
      case true =>
        go_wp2_with fail
        refine (lawAsked_any p fv fe fr fi ya _ yc _ _ _ (HBV.out.below HB3.out hB) (HRV.out.below HB3.out hB) (by omega)).mono ?_
        rintro e w4 ⟨rfl, hb4⟩
        have HB4 := Lib.hid (HB3.out.trans (hb4.mono HB3.out.size)); have K4 := Lib.hid (heap_later K3.out hb4 (by omega)); have F4 := Lib.hid (heap_later F3.out hb4 z3)
        clear hb4 c0 c1 d0 d1 d2 d3 d4
        have z4 : w.heap.size + 1 < w4.heap.size := (Array.getElem?_eq_some_iff.1 F4.out).1
        rw [HAK.out]
        cases ak
        case false =>
          rw [show errOf (askedOk p ⟨fv, fe, fi, fr, fw⟩) = 2 by rw [HAO.out]; rfl, show askedR p ⟨fv, fe, fi, fr, fw⟩ = false by unfold askedR; rw [HAO.out]; rfl]
          go_wp2_with fail
          refine (works_any _ (HT.out.below HB4.out hw0) (by have := HB4.out.size; omega)).mono ?_
          rintro e1 w9 ⟨rfl, hb9⟩
          have HF := Lib.hid (HB4.out.trans (hb9.mono HB4.out.size))
          clear hb9
          go_wp2
          go_ret
          exact ⟨rfl, HF.out⟩
        case true =>
          rw [show errOf (askedOk p ⟨fv, fe, fi, fr, fw⟩) = 0 by rw [HAO.out]; rfl]
          obtain ⟨j, v, e, hj, hjl, hv, hvl, he, hel, hy0⟩ := askedN_nat HPO.out HAK.out
          obtain ⟨an, han⟩ : ∃ an, an = askedR p ⟨fv, fe, fi, fr, fw⟩ := ⟨_, rfl⟩
          rw [← han]
          have hap : an = !possB (withB p.bounds v e (!fi)) (rget p.rules j) := by
            rw [han]; unfold askedR followsB
            rw [HAO.out, hj, hv, he]
            simp only [Int.toNat_natCast]
            rw [possB_pad _ _ _ hvl]; rfl
          have hfit := probOk_fit HPO.out
          have c0 : w4.cell? ⟨w.heap.size, 0, none⟩ = some (.slice ba p.bounds.length bc) := by rw [cell_of_row _ _ _ _ _ _ K4.out]; rfl
          have c1 : w4.cell? ⟨w.heap.size, 1, none⟩ = some (.slice ra p.rules.length rc) := by rw [cell_of_row _ _ _ _ _ _ K4.out]; rfl
          have d0 : w4.cell? ⟨w.heap.size + 1, 0, none⟩ = some (.int .i64 fv) := by rw [cell_of_row _ _ _ _ _ _ F4.out]; rfl
          have d1 : w4.cell? ⟨w.heap.size + 1, 1, none⟩ = some (.int .i64 fe) := by rw [cell_of_row _ _ _ _ _ _ F4.out]; rfl
          have d2 : w4.cell? ⟨w.heap.size + 1, 2, none⟩ = some (.bool fi) := by rw [cell_of_row _ _ _ _ _ _ F4.out]; rfl
          have d3 : w4.cell? ⟨w.heap.size + 1, 3, none⟩ = some (.int .i64 fr) := by rw [cell_of_row _ _ _ _ _ _ F4.out]; rfl
          have d4 : w4.cell? ⟨w.heap.size + 1, 4, none⟩ = some (.slice ya fw.length yc) := by rw [cell_of_row _ _ _ _ _ _ F4.out]; rfl
          obtain ⟨rb, ro, vv, rfl, hrb, hvv, q0, q1, q2, q3⟩ := (HRV.out.below HB4.out hB).cells hjl
          obtain ⟨va, vc, rfl⟩ := hvv.slice
          rw [hj] at d3
          rw [hv] at d0
          rw [he] at d1
          have zr : rb < w4.heap.size := by omega
          have z0 : w.heap.size < w4.heap.size := by omega
          have HFO := Lib.hid (fun (d : Nat) (os : Array Obj) => hap ▸ refFollows_any p.bounds hfit.2.2.2.2 (rget p.rules j) (hfit.2.2.2.1 j hjl) (probOk_range HPO.out j hjl) hfit.2.1 v e hvl hel fi j ya fw.length yc _ _ (Go.Sort.grow (redrawn w4 d) os) (hvv.below (below_regrown w4 d os) (by omega)) (HBV.out.below (below_grow HB4.out d os) hB) (Nat.le_trans hB (below_grow HB4.out d os).size))
          have HWO := Lib.hid (fun (d : Nat) (os : Array Obj) => works_any (Go.Sort.grow (redrawn w4 d) os) (HT.out.below (below_grow HB4.out d os) hw0) (Nat.lt_of_lt_of_le hw0 (below_grow HB4.out d os).size))
          have e1 : (an == an) = true := by simp
          clear hvv hfit hap han hj hv he hy0
          go_wp2_with fail
          refine wp_region_qb (by kernel_rfl) (by kernel_rfl) ?_
          repeat go_big_quiet_step ((first | (with_reducible exact Gives.quiet (HFO.out _ _)) | (with_reducible exact Gives.quiet (HWO.out _ _))))
          refine wpQuiet_nil ?_
          intro w5 hb5
          have HF := Lib.hid (HB4.out.trans (hb5.mono HB4.out.size))
          clear hb5
          go_wp2
          go_ret
          exact ⟨rfl, HF.out⟩
end Go.Proofs.YtilbbnjfaoldoaaDoor
