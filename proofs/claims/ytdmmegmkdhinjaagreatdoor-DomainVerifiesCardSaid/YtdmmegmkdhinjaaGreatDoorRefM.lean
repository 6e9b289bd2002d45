/- The reference of Domain: Wrong, SmallLog, Core. -/
import Derived.Test.YtdmmegmkdhinjaaGreatDoorRefL
import Derived.Test.YtdmmegmkdhinjaaGreatDoorDCoreB
namespace Go.Proofs.YtdmmegmkdhinjaaGreatDoor
open Go Go.RowKit
attribute [local go_sem] cell_grow u64_sAnd u64_sOr u64_sDiff sDiff_all zeqI zneI sAnd_bit_zero sAnd_bit_zeroN sAnd_bit_nonzero

theorem rightD_fitN {p : Dp} {l : List Cut} {c : Cut} (hp : probD p = true) (h : rightD p l c = true) : CFitN p.doms.length c := by
  obtain ⟨_, ⟨j, hj, hjl⟩, _⟩ := rightD_parts hp h
  unfold rightD at h
  simp only [Bool.and_eq_true] at h
  obtain ⟨⟨⟨⟨⟨⟨_, h2⟩, h3⟩, _⟩, _⟩, _⟩, _⟩ := h
  rw [hj, Int.toNat_natCast] at h2
  unfold ihas at h2
  rw [List.contains_iff_mem] at h2
  obtain ⟨i, hi, e⟩ := List.mem_iff_getElem.1 h2
  have := (ruleD_parts ((probD_parts hp).2.2.2.2 j hjl)).2.2.1 i hi
  rw [show iget (drget p.rules j).vars i = c.var by simp [iget, hi, e]] at this
  obtain ⟨m, hm, hm16⟩ := hasD_nat h3
  exact ⟨c.var.toNat, m, by omega, by omega, hm, hm16⟩
set_option maxRecDepth 100000 in
set_option maxHeartbeats 2000000 in
theorem refWrong_any (p : Dp) (hpo : probD p = true) (l : List Cut) (dv rv lv : Value) (w : World) {B : Nat} (hdv : Us w B dv p.doms) (hrv : DRls w B rv p.rules) (hlv : Cts w B lv l) (hB : B ≤ w.heap.size) :
    Gives Tryz.prog 17 #[.agg #[dv, rv], lv] w (.int .i64 (wrongD p l)) := by
  unfold Gives
  have HDV := Lib.hid hdv; have HRV := Lib.hid hrv; have HLV := Lib.hid hlv; have HOK := Lib.hid hpo
  have hll := hlv.len
  obtain ⟨da, dc, rfl⟩ := hdv.slice
  obtain ⟨ra, rc, rfl⟩ := hrv.slice
  obtain ⟨la, lc, rfl⟩ := hlv.slice
  clear hdv hrv hlv hpo
  have K0 := Lib.hid (heap_new0 w (.cells #[.slice da p.doms.length dc, .slice ra p.rules.length rc] 25)); have HB0 := Lib.hid (Below.new1 w (.cells #[.slice da p.doms.length dc, .slice ra p.rules.length rc] 25))
  go_enter Tryz.func17, Tryz.ntmps17
  go_wp2_with fail
  go_loopw [5] (fun iv wr => ∃ k : Nat, k ≤ l.length ∧ iv = .int .i64 k ∧ (∀ i, i < k → rightD p (l.take i) (cget l i) = true) ∧ wr.heap[w.heap.size]? = some (.cells #[.slice da p.doms.length dc, .slice ra p.rules.length rc] 25 (0, 0)) ∧ Below w.heap.size w wr) (fun iv _ => l.length - (intOf iv).toNat)
  case atStart => exact ⟨0, Nat.zero_le _, rfl, fun i hi => absurd hi (Nat.not_lt_zero _), K0.out, HB0.out⟩
  case round =>
    obtain ⟨k, hk, rfl, hall, kr, hb⟩ := hrel
    have p0 : wr.cell? ⟨w.heap.size, 0, none⟩ = some (.slice da p.doms.length dc) := by rw [cell_of_row _ _ _ _ _ _ kr]; rfl
    have p1 : wr.cell? ⟨w.heap.size, 1, none⟩ = some (.slice ra p.rules.length rc) := by rw [cell_of_row _ _ _ _ _ _ kr]; rfl
    have z0 : w.heap.size < wr.heap.size := (Array.getElem?_eq_some_iff.1 kr).1
    have HALL := Lib.hid hall; have KR := Lib.hid kr; have HBW := Lib.hid hb
    clear hall hb kr K0 HB0
    by_cases hlt : k < l.length
    · obtain ⟨lb, lo, yv, rfl, hlb, hyv, l0, l1, l2, l3⟩ := (HLV.out.below HBW.out hB).cells hlt
      obtain ⟨ya, yc, rfl⟩ := hyv.slice
      obtain ⟨c, hc⟩ : ∃ c, c = cget l k := ⟨_, rfl⟩
      rw [← hc] at hyv l0 l1 l2 l3
      have HYV := Lib.hid hyv
      have HC := Lib.hid hc
      have zl : lb < wr.heap.size := by omega
      have hkI : ((k : Nat) : Int) < ((l.length : Nat) : Int) := by omega
      have hfit : ∀ i, i < (l.take k).length → CFitN p.doms.length (cget (l.take k) i) := fun i hi => by
        have hik : i < k := by simp at hi; omega
        rw [cget_take hik]
        exact rightD_fitN HOK.out (HALL.out i hik)
      have hBw := HBW.out.size
      have hR : ∀ d os, Gives Tryz.prog 54 #[.agg #[.slice da p.doms.length dc, .slice ra p.rules.length rc], .slice (some ⟨lb, lo, none⟩) k lc, .agg #[.int .i64 c.var, .int .i64 c.value, .int .i64 c.rule, .slice ya c.why.length yc]] (Go.Sort.grow (redrawn wr d) os) (.bool (rightD p (l.take k) c)) := fun d os =>
        refRight_any p HOK.out (l.take k) c _ _ _ _ _ (B := B) (HDV.out.below (below_grow HBW.out d os) hB) (HRV.out.below (below_grow HBW.out d os) hB) ((HLV.out.take (by omega)).below (below_grow HBW.out d os) hB) (HYV.out.below (below_regrown wr d os) (by omega)) (Nat.le_trans hB (Nat.le_trans hBw (below_regrown wr d os).size)) hfit
      have hklc : ((k : Nat) : Int) ≤ ((lc : Nat) : Int) := by
        obtain ⟨_, ⟨_, a', c', hv, hcc, _, _⟩, _⟩ := HLV.out
        cases hv; omega
      have HR := Lib.hid hR
      clear hR hfit hc hyv
      cases hr : rightD p (l.take k) c <;> rw [hr] at HR
      case false =>
        have HF := Lib.hid (wrongD_some hlt HALL.out (by rw [← HC.out]; exact hr))
        clear hr
        go_wp2_with fail
        refine wp_region_qb (by kernel_rfl) (by kernel_rfl) ?_
        repeat go_big_quiet_step ((with_reducible exact Gives.quiet (HR.out _ _)))
        refine wpQuiet_nil ?_
        intro w4 hb4
        have HB4 := Lib.hid (HBW.out.trans (hb4.mono HBW.out.size))
        clear hb4
        go_wp2
        go_ret
        exact ⟨by rw [HF.out]; rfl, HB4.out⟩
      case true =>
        have HRT := Lib.hid hr
        clear hr
        go_wp2_with fail
        refine wp_region_qb (by kernel_rfl) (by kernel_rfl) ?_
        repeat go_big_quiet_step ((with_reducible exact Gives.quiet (HR.out _ _)))
        refine wpQuiet_nil ?_
        intro w4 hb4
        have HB4 := Lib.hid (HBW.out.trans (hb4.mono HBW.out.size)); have K4 := Lib.hid (heap_later KR.out hb4 z0)
        clear hb4
        go_wp2
        go_roundw
        case rel => exact ⟨k + 1, by omega, by go_num, fun i hi => if h : i = k then by subst h; rw [← HC.out]; exact HRT.out else HALL.out i (by omega), K4.out, HB4.out⟩
        case measure => simp [intOf]; omega
    · have hkL : k = l.length := by omega
      subst hkL
      have HF := Lib.hid (wrongD_none HALL.out)
      go_wp2
      go_ret
      exact ⟨by rw [HF.out]; rfl, HBW.out⟩
/-- A log of few and small parts. -/
def smallL (l : List Cut) : Bool := decide (l.length ≤ 130) && l.all fun c => decide (c.why.length ≤ 130)
theorem smallL_yes {l : List Cut} (h0 : l.length ≤ 130) (h : ∀ i, i < l.length → (cget l i).why.length ≤ 130) : smallL l = true := by
  unfold smallL
  rw [Bool.and_eq_true, List.all_eq_true]
  refine ⟨decide_eq_true h0, fun c hc => ?_⟩
  obtain ⟨i, hi, rfl⟩ := List.mem_iff_getElem.1 hc
  have := h i hi
  rw [show cget l i = l[i] by simp [cget, hi]] at this
  exact decide_eq_true this
theorem smallL_no {l : List Cut} {i : Nat} (hi : i < l.length) (h : ¬ (cget l i).why.length ≤ 130) : smallL l = false := by
  rw [Bool.eq_false_iff]
  intro hc
  unfold smallL at hc
  rw [Bool.and_eq_true, List.all_eq_true] at hc
  have := of_decide_eq_true (hc.2 l[i] (List.getElem_mem hi))
  rw [show cget l i = l[i] by simp [cget, hi]] at h
  exact h this
theorem smallL_parts {l : List Cut} (h : smallL l = true) : l.length ≤ 130 ∧ ∀ i, i < l.length → (cget l i).why.length ≤ 130 := by
  unfold smallL at h
  rw [Bool.and_eq_true, List.all_eq_true] at h
  refine ⟨of_decide_eq_true h.1, fun i hi => ?_⟩
  have := of_decide_eq_true (h.2 l[i] (List.getElem_mem hi))
  rw [show cget l i = l[i] by simp [cget, hi]]
  exact this
set_option maxRecDepth 100000 in
set_option maxHeartbeats 1000000 in
theorem smallLog_any (l : List Cut) (lv : Value) (w : World) {B : Nat} (hlv : Cts w B lv l) (hB : B ≤ w.heap.size) :
    Gives Tryz.prog 14 #[lv] w (.bool (smallL l)) := by
  unfold Gives
  have HLV := Lib.hid hlv
  have hll := hlv.len
  obtain ⟨la, lc, rfl⟩ := hlv.slice
  clear hlv
  by_cases h130 : 130 < l.length
  · have HN : Hid (smallL l = false) := Lib.hid (by unfold smallL; rw [decide_eq_false (by omega)]; rfl)
    have hI : (130 : Int) < ((l.length : Nat) : Int) := by omega
    go_enter Tryz.func14, Tryz.ntmps14
    go_wp2
    go_ret
    exact ⟨by rw [HN.out]; rfl, Below.refl _ _⟩
  · have hI : ¬ (130 : Int) < ((l.length : Nat) : Int) := by omega
    go_enter Tryz.func14, Tryz.ntmps14
    go_wp2_with fail
    go_loopw [3] (fun iv wr => ∃ k : Nat, k ≤ l.length ∧ iv = .int .i64 k ∧ (∀ i, i < k → (cget l i).why.length ≤ 130) ∧ Below w.heap.size w wr) (fun iv _ => l.length - (intOf iv).toNat)
    case atStart => exact ⟨0, Nat.zero_le _, rfl, fun i hi => absurd hi (Nat.not_lt_zero _), Below.refl _ _⟩
    case round =>
      obtain ⟨k, hk, rfl, hall, hb⟩ := hrel
      have HALL := Lib.hid hall; have HBW := Lib.hid hb
      clear hall hb
      by_cases hlt : k < l.length
      · obtain ⟨lb, lo, yv, rfl, hlb, hyv, l0, l1, l2, l3⟩ := (HLV.out.below HBW.out hB).cells hlt
        obtain ⟨ya, yc, rfl⟩ := hyv.slice
        obtain ⟨c, hc⟩ : ∃ c, c = cget l k := ⟨_, rfl⟩
        rw [← hc] at hyv l0 l1 l2 l3
        have HC := Lib.hid hc
        clear hc hyv
        by_cases hw : 130 < c.why.length
        · have HN := Lib.hid (smallL_no hlt (by rw [← HC.out]; omega))
          have hwI : (130 : Int) < ((c.why.length : Nat) : Int) := by omega
          go_wp2
          go_ret
          exact ⟨by rw [HN.out]; rfl, HBW.out⟩
        · have HW : Hid ((cget l k).why.length ≤ 130) := Lib.hid (by rw [← HC.out]; omega)
          have hwI : ¬ (130 : Int) < ((c.why.length : Nat) : Int) := by omega
          go_wp2
          go_roundw
          case rel => exact ⟨k + 1, by omega, by go_num, fun i hi => if h : i = k then by subst h; exact HW.out else HALL.out i (by omega), HBW.out⟩
          case measure => simp [intOf]; omega
      · have hkL : k = l.length := by omega
        subst hkL
        have HY := Lib.hid (smallL_yes (by omega) HALL.out)
        go_wp2
        go_ret
        exact ⟨by rw [HY.out]; rfl, HBW.out⟩
end Go.Proofs.YtdmmegmkdhinjaaGreatDoor
