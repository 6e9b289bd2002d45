/- The law DomainReasons, walked. -/
import Derived.Test.YtdmmegmkdhinjaaDoorPlainM
import Derived.Test.YtdmmegmkdhinjaaDoorDCuts
import Derived.Test.YtdmmegmkdhinjaaDoorFine
import Derived.Test.YtdmmegmkdhinjaaDoorSlEq
import Derived.Test.YtdmmegmkdhinjaaDoorBO
namespace Go.Proofs.YtdmmegmkdhinjaaDoor
open Go Go.RowKit
attribute [local go_sem] cell_grow u64_sAnd u64_sOr u64_sDiff sDiff_all zeqI zneI sAnd_bit_zero sAnd_bit_zeroN sAnd_bit_nonzero

theorem prop_verN {p : Dp} (hp : probD p = true) : verN p (propD p).2 = 0 := by unfold verN; rw [hp, prop_right hp]; rfl
theorem prop_verE {p : Dp} (hp : probD p = true) : verE p (propD p).2 = 0 := by unfold verE; rw [hp, prop_right hp]; rfl
theorem fewer_ver {p : Dp} (hp : probD p = true) {i j : Nat} (hi : i < (propD p).2.length) (hj : j < (cget (propD p).2 i).why.length) : verN p (fewerD (propD p).2 i j) = i ∧ verE p (fewerD (propD p).2 i j) = 7 := by
  unfold verN verE
  rw [hp, fewer_wrong hp hi hj, if_pos rfl, if_pos rfl, if_pos (by omega), if_pos (by omega)]
  exact ⟨rfl, rfl⟩
theorem twice_ver {p : Dp} (hp : probD p = true) {i : Nat} (hi : i < (propD p).2.length) : verN p ((propD p).2 ++ [cget (propD p).2 i]) = (propD p).2.length ∧ verE p ((propD p).2 ++ [cget (propD p).2 i]) = 7 := by
  unfold verN verE
  rw [hp, twice_wrong hp hi, if_pos rfl, if_pos rfl, if_pos (by omega), if_pos (by omega)]
  exact ⟨rfl, rfl⟩
/-- One cut in a block of its own. -/
theorem cts_one {w : World} {B b : Nat} {c : Cut} {yv : Value} {t : TypeId} (h : w.heap[b]? = some (.cells #[.int .i64 c.var, .int .i64 c.value, .int .i64 c.rule, yv] t (0, 0))) (hy : Ints w B yv c.why) (hb : b < B) : Cts w B (.slice (some ⟨b, 0, none⟩) 1 1) [c] := by
  refine ⟨fun j => #[.int .i64 c.var, .int .i64 c.value, .int .i64 c.rule, yv][j]?.getD undef, ⟨by show 1 ≤ _; decide, _, _, rfl, Nat.le_refl _, by decide, fun _ => ⟨_, _, rfl, hb, fun j hj => ?_⟩⟩, fun i hi => ?_⟩
  · have hj4 : j < 4 := by simpa using hj
    rw [Nat.zero_add, cell_of_row _ _ _ _ _ _ h]
    have : j = 0 ∨ j = 1 ∨ j = 2 ∨ j = 3 := by omega
    rcases this with rfl | rfl | rfl | rfl <;> rfl
  · have : i = 0 := by simpa using hi
    subst this
    exact ⟨rfl, rfl, rfl, hy⟩
set_option maxRecDepth 100000 in
set_option maxHeartbeats 8000000 in
theorem domainReasons_any (p : Dp) (by_ : Nat) (hby : by_ < 256) (dv rv : Value) (w : World) {B : Nat} (hdv : Us w B dv p.doms) (hrv : DRls w B rv p.rules) (hB0 : 0 < B) (hB : B ≤ w.heap.size) (hu : U64l p.doms) (hT : Tab w) :
    Gives Tryd.prog 7 #[.agg #[dv, rv], .int .u8 (by_ : Nat)] w (.bool true) := by
  unfold Gives
  have HDV := Lib.hid hdv; have HRV := Lib.hid hrv; have HT := Lib.hid hT; have HU := Lib.hid hu
  have hw0 : 0 < w.heap.size := by omega
  obtain ⟨da, dc, rfl⟩ := hdv.slice
  obtain ⟨ra, rc, rfl⟩ := hrv.slice
  clear hdv hrv hT hu
  have K0 := Lib.hid (heap_new0 w (.cells #[.slice da p.doms.length dc, .slice ra p.rules.length rc] 25)); have HB0 := Lib.hid (Below.new1 w (.cells #[.slice da p.doms.length dc, .slice ra p.rules.length rc] 25))
  go_enter Tryd.func7, Tryd.ntmps7
  go_wp2_with fail
  refine (fine_any p _ _ _ (HDV.out.below HB0.out hB) (HRV.out.below HB0.out hB) (by simp; omega) HU.out).mono ?_
  rintro e w1 ⟨rfl, hb1⟩
  have HB1 := Lib.hid (HB0.out.trans (hb1.mono (by simp))); have K1 := Lib.hid (heap_later K0.out hb1 (by simp))
  clear hb1 K0 HB0
  have z1 : w.heap.size < w1.heap.size := (Array.getElem?_eq_some_iff.1 K1.out).1
  cases hfi : smallD p && probD p
  case false =>
    clear hfi
    go_wp2_with fail
    refine (works_any _ (HT.out.below HB1.out hw0) (by have := HB1.out.size; omega)).mono ?_
    rintro e1 w9 ⟨rfl, hb9⟩
    have HF := Lib.hid (HB1.out.trans (hb9.mono HB1.out.size))
    clear hb9
    go_wp2
    go_ret
    exact ⟨rfl, HF.out⟩
  case true =>
    have hpo : probD p = true := by rw [Bool.and_eq_true] at hfi; exact hfi.2
    have HPO := Lib.hid hpo
    have hn1 := (probD_parts hpo).1
    have hn8 := (probD_parts hpo).2.1
    clear hfi hpo
    obtain ⟨l, hl⟩ : ∃ l, l = (propD p).2 := ⟨_, rfl⟩
    obtain ⟨X, hX⟩ : ∃ X, X = (propD p).1.take p.doms.length := ⟨_, rfl⟩
    have hxl : X.length = p.doms.length := by rw [hX]; exact (prop_take HPO.out).1
    have HL := Lib.hid hl; have HX := Lib.hid hX; have HXL := Lib.hid hxl
    clear hl hX hxl
    have c0 : w1.cell? ⟨w.heap.size, 0, none⟩ = some (.slice da p.doms.length dc) := by rw [cell_of_row _ _ _ _ _ _ K1.out]; rfl
    have c1 : w1.cell? ⟨w.heap.size, 1, none⟩ = some (.slice ra p.rules.length rc) := by rw [cell_of_row _ _ _ _ _ _ K1.out]; rfl
    go_wp2_with fail
    refine (propagate_any p _ _ _ (HDV.out.below HB1.out hB) (HRV.out.below HB1.out hB) hB0 (by omega) (HT.out.below HB1.out hw0)).mono ?_
    rintro e w2 ⟨hb2, hp⟩
    have hgood : Good (propD p) := run_good HPO.out (padD_ok HPO.out)
    have hfew := hgood.few
    have hfwy := hgood.why
    rw [← HL.out] at hfew hfwy
    have hl128 : l.length ≤ 128 := by omega
    have HWY : Hid (∀ i, i < l.length → (cget l i).why.length ≤ 128) := Lib.hid fun i hi => by have := hfwy i hi; omega
    obtain ⟨fv, cv, rfl, hfo, hco⟩ : ∃ fv cv, e = .returned (.tuple #[fv, cv, .int .i64 0]) ∧ w2.ownsRow w1.heap.size 53 1 fv p.doms.length (natsV X) ∧ COwn w2 w1.heap.size cv l := by
      rcases hp with ⟨h, _⟩ | ⟨_, fv, cv, h1, h2, h3⟩
      · rw [HPO.out] at h; cases h
      · exact ⟨fv, cv, h1, by rw [HX.out]; exact h2, by rw [HL.out]; exact h3⟩
    have HFO := Lib.hid (owns_us hfo (by have := HXL.out; omega) HXL.out)
    obtain ⟨xa, xc, rfl⟩ := own_form hfo
    have HCO := Lib.hid (hco.cts (by omega) (fun i hi => by have := HWY.out i hi; omega))
    obtain ⟨la, lc, rfl⟩ : ∃ a c, cv = .slice a l.length c := by obtain ⟨cs, h, _⟩ := hco; exact own_form h
    have HB2 := Lib.hid (HB1.out.trans (hb2.mono HB1.out.size)); have K2 := Lib.hid (heap_later K1.out hb2 z1)
    have z2 : w.heap.size < w2.heap.size := (Array.getElem?_eq_some_iff.1 K2.out).1
    have hver := verify_any p l _ _ _ w2 (B := w2.heap.size) ((HDV.out.below HB2.out hB).mono (by omega)) ((HRV.out.below HB2.out hB).mono (by omega)) HCO.out (by omega) (Nat.le_refl _) (HT.out.below HB2.out hw0)
    rw [show verN p l = 0 by rw [HL.out]; exact prop_verN HPO.out, show verE p l = 0 by rw [HL.out]; exact prop_verE HPO.out] at hver
    have HVER := Lib.hid hver
    clear c0 c1 hb2 hp hfo hco hfew hfwy hgood hver
    have c0 : w2.cell? ⟨w.heap.size, 0, none⟩ = some (.slice da p.doms.length dc) := by rw [cell_of_row _ _ _ _ _ _ K2.out]; rfl
    have c1 : w2.cell? ⟨w.heap.size, 1, none⟩ = some (.slice ra p.rules.length rc) := by rw [cell_of_row _ _ _ _ _ _ K2.out]; rfl
    go_wp2_with fail
    refine HVER.out.mono ?_
    rintro e w3 ⟨rfl, hb3⟩
    have HB3 := Lib.hid (HB2.out.trans (hb3.mono HB2.out.size)); have K3 := Lib.hid (heap_later K2.out hb3 z2)
    have z23 := hb3.size
    have HFO3 := Lib.hid (HFO.out.below hb3 (Nat.le_refl _))
    have HCO3 := Lib.hid (HCO.out.below hb3 (Nat.le_refl _))
    have z3 : w.heap.size < w3.heap.size := (Array.getElem?_eq_some_iff.1 K3.out).1
    clear c0 c1 hb3 HVER HFO HCO
    have c0 : w3.cell? ⟨w.heap.size, 0, none⟩ = some (.slice da p.doms.length dc) := by rw [cell_of_row _ _ _ _ _ _ K3.out]; rfl
    have c1 : w3.cell? ⟨w.heap.size, 1, none⟩ = some (.slice ra p.rules.length rc) := by rw [cell_of_row _ _ _ _ _ _ K3.out]; rfl
    have hl130 : ¬ (130 : Int) < (l.length : Int) := by omega
    have HCU := Lib.hid (clone_us p.doms (.slice da p.doms.length dc) w3 (HDV.out.below HB3.out hB) (by omega) (by omega))
    go_wp2_with fail
    refine HCU.out.mono ?_
    rintro e w4 ⟨g, gc, rfl, how, hb4⟩
    have HB4 := Lib.hid (HB3.out.trans (hb4.mono HB3.out.size)); have K4 := Lib.hid (heap_later K3.out hb4 z3)
    have HFO4 := Lib.hid ((HFO3.out.below hb4 z23).mono (Nat.le_refl _))
    have HCO4 := Lib.hid (HCO3.out.below hb4 z23)
    have z4 : w.heap.size < w4.heap.size := (Array.getElem?_eq_some_iff.1 K4.out).1
    have z34 := hb4.size
    have HOW := Lib.hid how; have HB34 := Lib.hid hb4
    clear c0 c1 hb4 HCU hl130 how
    have hlc : l.length ≤ lc := by obtain ⟨c, ⟨_, a', cap', hv, h, _⟩, _⟩ := HCO4.out; cases hv; exact h
    have hlm : lc ≤ 9223372036854775807 := by obtain ⟨c, ⟨_, a', cap', hv, _, h, _⟩, _⟩ := HCO4.out; cases hv; unfold maxLen at h; omega
    have hg3 : w3.heap.size ≤ g := (HOW.out.lt g rfl).1
    go_wp2_with fail
    go_loopw [63] (fun iv wr => ∃ i : Nat, i ≤ l.length ∧ iv = .int .i64 i ∧ wr.ownsRow w3.heap.size 53 1 (.slice (some ⟨g, 0, none⟩) p.doms.length gc) p.doms.length (natsV (leftD p (l.take i))) ∧ Below w3.heap.size w3 wr) (fun iv _ => l.length - (intOf iv).toNat)
    case atStart => exact ⟨0, Nat.zero_le _, rfl, HOW.out, HB34.out⟩
    case round =>
      clear HOW
      obtain ⟨i, hi, rfl, how, hb⟩ := hrel
      have HB := Lib.hid hb
      by_cases hlt : i < l.length
      · obtain ⟨lb, lo, ov, hla, hlb, hov, l0, l1, l2, l3⟩ := (HCO3.out.below hb z23).cells hlt
        subst hla
        have zl : lb < wr.heap.size := by have := hb.size; omega
        obtain ⟨x, v, hx, hv, hxl, hv16, hhas⟩ := left_has HPO.out (show i < (propD p).2.length by rw [← HL.out]; exact hlt)
        rw [← HL.out] at hx hv hhas
        rw [hx] at l0
        rw [hv] at l1
        obtain ⟨F, hF⟩ : ∃ F, F = leftD p (l.take i) := ⟨_, rfl⟩
        rw [← hF] at hhas how
        have hFl : F.length = p.doms.length := by rw [hF]; unfold leftD; rw [left_length]
        have HF := Lib.hid hF; have HFL := Lib.hid hFl
        have HOW := Lib.hid how; have HX := Lib.hid hx; have HV := Lib.hid hv
        have hu64 : U64 (nget F x) := Nat.lt_trans (by rw [hF]; exact left_lt HPO.out _ _) (by decide)
        have HU64 := Lib.hid hu64
        obtain ⟨oa, oc, rfl⟩ := hov.slice
        obtain ⟨wo, rfl⟩ : ∃ wo : World, wo = wr := ⟨_, rfl⟩
        clear how hov hb hF hFl hx hv hu64
        go_upto_region 11 with fail
        refine abs_wp (fun Z => Z.heap[wo.heap.size]? = some (.cells #[.int .i64 x, .int .i64 v, .int .i64 (cget l i).rule, .slice oa (cget l i).why.length oc] 45 (0, 0)) ∧ Below wo.heap.size wo Z) ⟨heap_new0 _ _, Below.new1 _ _⟩ ?_
        clear l0 l1 l2 l3
        rintro W ⟨kf, hbf⟩
        have KF := Lib.hid kf; have HBF := Lib.hid hbf
        have d0 : W.cell? ⟨wo.heap.size, 0, none⟩ = some (.int .i64 x) := by rw [cell_of_row _ _ _ _ _ _ kf]; rfl
        have d1 : W.cell? ⟨wo.heap.size, 1, none⟩ = some (.int .i64 v) := by rw [cell_of_row _ _ _ _ _ _ kf]; rfl
        have zk : wo.heap.size < W.heap.size := (Array.getElem?_eq_some_iff.1 kf).1
        have how5 := own_ck HOW.out (CK.below hbf)
        obtain ⟨g', gc', cur, hae, -, hgb, -, -, -⟩ := own_some how5 (by omega)
        cases hae
        have zg : g < W.heap.size := (Array.getElem?_eq_some_iff.1 hgb).1
        have e4 : (natsV F)[x]? = some (.int .u64 ((nget F x : Nat) : Int)) := natsV_get F x (by rw [HFL.out]; exact hxl)
        have q4 : W.cell? ⟨g, x, none⟩ = some (.int .u64 ((nget F x : Nat) : Int)) := by have := how5.cells (g := g) rfl _ _ e4; rwa [Addr.add_lit, Nat.zero_add] at this
        have HOW5 := Lib.hid how5
        obtain ⟨y, hy⟩ : ∃ y, y = nget F x := ⟨_, rfl⟩
        have HY := Lib.hid hy
        rw [← hy] at q4 hhas
        have hu64 : U64 y := by rw [hy]; exact HU64.out
        have hxd : ¬ (p.doms.length : Int) ≤ (x : Int) := by omega
        have hxz : ¬ (x : Int) < 0 := by omega
        have hxdn : ¬ p.doms.length ≤ x := by omega
        have hxg : decide ((p.doms.length : Int) ≤ (x : Int)) = false := decide_eq_false hxd
        have hxgn : decide (p.doms.length ≤ x) = false := decide_eq_false hxdn
        have hxzd : decide ((x : Int) < 0) = false := decide_eq_false hxz
        have hxz2 : (0 : Int) ≤ (x : Int) := by omega
        have hxi : (x : Int) < (p.doms.length : Int) := by omega
        clear kf hbf how5 hgb e4 hy
        go_wp2_with fail
        have HQ := Lib.hid (fun u => by have := Gives.of_same (refHas_any y (v : Int) u hu64); rw [hhas] at this; exact this)
        refine wp_region_qb (by kernel_rfl) (by kernel_rfl) ?_
        repeat go_big_quiet_step ((with_reducible exact Gives.quiet (HQ.out _)))
        refine wpQuiet_nil ?_
        intro w5 hb5
        have HF5 := Lib.hid (heap_later KF.out hb5 zk); have HOW6 := Lib.hid (own_ck HOW5.out (CK.below hb5))
        have HB5 := Lib.hid (HB.out.trans ((HBF.out.trans (hb5.mono HBF.out.size)).mono HB.out.size))
        have d0 : w5.cell? ⟨wo.heap.size, 0, none⟩ = some (.int .i64 x) := by rw [cell_of_row _ _ _ _ _ _ HF5.out]; rfl
        have d1 : w5.cell? ⟨wo.heap.size, 1, none⟩ = some (.int .i64 v) := by rw [cell_of_row _ _ _ _ _ _ HF5.out]; rfl
        have q5 : w5.cell? ⟨g, x, none⟩ = some (.int .u64 ((y : Nat) : Int)) := (hb5.cell (p := ⟨g, x, none⟩) zg).trans q4
        have z5k : wo.heap.size < w5.heap.size := (Array.getElem?_eq_some_iff.1 HF5.out).1
        have z5g : g < w5.heap.size := Nat.lt_of_lt_of_le zg hb5.size
        have hwb := wrap_bit v (show v < 64 by omega)
        have hbu : U64 (bitN v) := U64.bit (by omega)
        have hv0 : ¬ (v : Int) < 0 := by omega
        have hv00 : (0 : Int) ≤ (v : Int) := by omega
        clear hb5 q4 KF HOW5 HBF hxd hxdn hxg hxgn hxzd hhas zk zg
        go_wp2_with fail
        refine wp_region_qbt 10 (by kernel_rfl) (by kernel_rfl) ?_
        simp only [List.take_succ_cons, List.take_zero, List.drop_succ_cons, List.drop_zero]
        repeat go_big_quiet_step (fail)
        refine wpQuiet_nil ?_
        intro w6 hb6
        have how6 := own_ck HOW6.out (CK.below hb6)
        obtain ⟨g', gc', cur, hae, -, hgb, -, -, -⟩ := own_some how6 (by omega)
        cases hae
        have q6 : w6.cell? ⟨g, x, none⟩ = some (.int .u64 ((y : Nat) : Int)) := (hb6.cell (p := ⟨g, x, none⟩) z5g).trans q5
        have q6f : w6.frozen? ⟨g, x, none⟩ = false := by simp [World.frozen?, hgb]
        have hst := (how6.stored x (.int .u64 (((sDiff y (bitN v)) : Nat) : Int))).1
        rw [show (natsV F).set x (.int .u64 (((sDiff y (bitN v)) : Nat) : Int)) = natsV (F.set x (sDiff y (bitN v))) by unfold natsV; rw [List.map_set]; rfl, show F.set x (sDiff y (bitN v)) = leftD p (l.take (i + 1)) by rw [left_take hlt, ← HF.out]; unfold leftStep; rw [HX.out, HV.out, Int.toNat_natCast, Int.toNat_natCast, HY.out]] at hst
        have HST := Lib.hid hst
        have HB6 := Lib.hid ((HB5.out.trans (hb6.mono HB5.out.size)).setCell (p := ⟨g, x, none⟩) hg3 (.int .u64 (((sDiff y (bitN v)) : Nat) : Int)))
        clear how6 hb6 hgb hst q5 d0 d1
        go_wp2
        go_roundw
        case rel => exact ⟨i + 1, by omega, by go_num, HST.out, HB6.out⟩
        case measure => simp [intOf]; omega
      · have hi2 : i = l.length := by omega
        subst hi2
        rw [List.take_length, show leftD p l = X by rw [HL.out, HX.out]; exact left_all HPO.out] at how
        have HBr := Lib.hid (HB3.out.trans (hb.mono HB3.out.size))
        have Kr := Lib.hid (heap_later K3.out hb z3)
        have z3r := hb.size
        have HEQ := Lib.hid (equal_us X X _ _ wr (owns_us how (by have := HXL.out; omega) HXL.out) ((HFO3.out.below hb z23).mono (show w2.heap.size ≤ wr.heap.size by omega)) (Nat.le_refl _))
        rw [show sameN X X = true by unfold sameN; simp] at HEQ
        have HCr := Lib.hid (HCO3.out.below hb z23)
        clear hb how HB HFO3 HB34
        go_wp2_with fail
        refine HEQ.out.mono ?_
        rintro e wE ⟨rfl, hbE⟩
        have HBE := Lib.hid (HBr.out.trans (hbE.mono HBr.out.size))
        have KE := Lib.hid (heap_later Kr.out hbE (by omega))
        have zE := hbE.size
        have HCE := Lib.hid ((HCr.out.below hbE (by omega)).mono (show w2.heap.size ≤ wE.heap.size by omega))
        have zEw : w.heap.size < wE.heap.size := (Array.getElem?_eq_some_iff.1 KE.out).1
        clear hbE HEQ HCr HCO3 HBr Kr
        go_wp2_with fail
        go_loopw [105] (fun iv wr => ∃ i : Nat, i ≤ l.length ∧ iv = .int .i64 i ∧ Below wE.heap.size wE wr) (fun iv _ => l.length - (intOf iv).toNat)
        case atStart => exact ⟨0, Nat.zero_le _, rfl, Below.refl _ _⟩
        case round =>
          obtain ⟨i, hi, rfl, hb⟩ := hrel
          have HB := Lib.hid hb
          by_cases hlt : i < l.length
          · obtain ⟨lb, lo, ov, hla, hlb, hov, l0, l1, l2, l3⟩ := (HCE.out.below hb (Nat.le_refl _)).cells hlt
            subst hla
            have zl : lb < wr.heap.size := by have := hb.size; omega
            obtain ⟨oa, oc, rfl⟩ := hov.slice
            have HOV := Lib.hid hov
            obtain ⟨wi, rfl⟩ : ∃ wi : World, wi = wr := ⟨_, rfl⟩
            clear hov hb
            go_upto_region 20 with fail
            refine abs_wp (fun Z => Z.heap[wi.heap.size]? = some (.cells #[.int .i64 (cget l i).var, .int .i64 (cget l i).value, .int .i64 (cget l i).rule, .slice oa (cget l i).why.length oc] 45 (0, 0)) ∧ Below wi.heap.size wi Z) ⟨heap_new0 _ _, Below.new1 _ _⟩ ?_
            clear l0 l1 l2 l3
            rintro W ⟨kf, hbf⟩
            have KF := Lib.hid kf; have HBF := Lib.hid hbf
            have d3 : W.cell? ⟨wi.heap.size, 3, none⟩ = some (.slice oa (cget l i).why.length oc) := by rw [cell_of_row _ _ _ _ _ _ kf]; rfl
            clear kf hbf
            obtain ⟨f, hf⟩ : ∃ f, f = cget l i := ⟨_, rfl⟩
            rw [← hf] at KF d3 HOV ⊢
            have HF := Lib.hid hf
            have hwl : f.why.length ≤ 128 := by rw [hf]; exact HWY.out i hlt
            clear hf
            go_wp2_with fail
            clear d3
            go_loopw [113] (fun kv wr => ∃ k : Nat, k ≤ f.why.length ∧ kv = .int .i64 k ∧ Below W.heap.size W wr) (fun kv _ => f.why.length - (intOf kv).toNat)
            case atStart => exact ⟨0, Nat.zero_le _, rfl, Below.refl _ _⟩
            case round =>
              obtain ⟨k, hk, rfl, hbk⟩ := hrel
              have HBK := Lib.hid hbk
              by_cases hkl : k < f.why.length
              · have hb2k := HB.out.trans ((HBF.out.trans (hbk.mono HBF.out.size)).mono HB.out.size)
                have HB2K := Lib.hid hb2k
                have hplk := HCE.out.below hb2k (Nat.le_refl _)
                have HCL := Lib.hid (clone_cuts (l.take (i + 1)) (.slice (some ⟨lb, lo, none⟩) (i + 1) lc) wr (hplk.take (k := i + 1) (by omega)) hb2k.size (by simp; omega) (by simp; omega))
                have htl : (l.take (i + 1)).length = i + 1 := by simp; omega
                rw [htl] at HCL
                have HTL := Lib.hid htl
                have h2 : (i : Int) + 1 ≤ ((lc : Nat) : Int) := by omega
                have h3 : (0 : Int) ≤ (i : Int) + 1 := by omega
                have h4 : ((i : Int) + 1).toNat = i + 1 := by omega
                have h5 : IntKind.i64.wrap ((i : Int) + 1) = (i : Int) + 1 := IntWalk.i64_in _ (by omega)
                clear hbk hb2k hplk htl
                go_wp2_with fail
                clear h2 h3 h4 h5
                refine HCL.out.mono ?_
                rintro e w5 ⟨g, gc, cs, rfl, how, hfc, hb5⟩
                obtain ⟨_, a', c', hae, _, _, hrow⟩ := HOV.out
                cases hae
                obtain ⟨yb, yo, rfl, hyb, hycell⟩ := hrow (by omega)
                clear hrow hycell
                have hbW5 := HBK.out.trans (hb5.mono HBK.out.size)
                have hb25 := HB2K.out.trans (hb5.mono HB2K.out.size)
                have kf5 := heap_later KF.out hbW5 (Array.getElem?_eq_some_iff.1 KF.out).1
                have d3 : w5.cell? ⟨wi.heap.size, 3, none⟩ = some (.slice (some ⟨yb, yo, none⟩) f.why.length oc) := by rw [cell_of_row _ _ _ _ _ _ kf5]; rfl
                have zf5 : wi.heap.size < w5.heap.size := (Array.getElem?_eq_some_iff.1 kf5).1
                have hov5 := HOV.out.below (HBF.out.trans (hbW5.mono HBF.out.size)) (show wE.heap.size ≤ wi.heap.size from HB.out.size)
                have hgl := (how.lt g rfl).1
                have hwg : wE.heap.size ≤ wr.heap.size := HB2K.out.size
                have HCI := Lib.hid (clone_ints f.why yb yo f.why.length oc w5 hov5 (by omega) (by omega))
                have HOW := Lib.hid how; have HFC := Lib.hid hfc; have HB25 := Lib.hid hb25; have HBW5 := Lib.hid hbW5
                clear how hfc hb5 hbW5 hb25 kf5 hov5 HCL HB2K
                go_wp2_with fail
                refine HCI.out.mono ?_
                rintro e w6 ⟨yv, rfl, hyo, hb6⟩
                obtain ⟨g6, c6, cur6, rfl, hg6, -, -, -, -⟩ := own_some hyo (by omega)
                have HDI := Lib.hid (delete_ints f.why g6 f.why.length c6 k w5.heap.size w6 hyo hkl)
                have HB6 := Lib.hid hb6
                clear hyo hb6 HCI d3
                go_wp2_with fail
                refine HDI.out.mono ?_
                rintro e w7 ⟨rfl, hyo7, hb7⟩
                have hb57 := HB6.out.trans (hb7.mono hg6)
                have hb27 := HB25.out.trans (hb57.mono HB25.out.size)
                have how7 := own_ck HOW.out (CK.below hb57)
                have hfc7 := HFC.out.below hb57 HB25.out.size
                obtain ⟨g', gc', curg, hae, hg', hgb, -, -, -⟩ := own_some how7 (by omega)
                cases hae
                obtain ⟨e0, e1, e2, yold, e4, e5⟩ := hfc7.2 i (by rw [HTL.out]; omega)
                have q4 : w7.cell? ⟨g, i * 4 + 3, none⟩ = some yold := by have := how7.cells (g := g) rfl _ _ e4; rwa [Addr.add_lit, Nat.zero_add] at this
                have q4f : w7.frozen? ⟨g, i * 4 + 3, none⟩ = false := by simp [World.frozen?, hgb]
                have k7 := heap_later KE.out hb27 zEw
                have c0 : w7.cell? ⟨w.heap.size, 0, none⟩ = some (.slice da p.doms.length dc) := by rw [cell_of_row _ _ _ _ _ _ k7]; rfl
                have c1 : w7.cell? ⟨w.heap.size, 1, none⟩ = some (.slice ra p.rules.length rc) := by rw [cell_of_row _ _ _ _ _ _ k7]; rfl
                have zw7 : w.heap.size < w7.heap.size := (Array.getElem?_eq_some_iff.1 k7).1
                have zg7 : g < w7.heap.size := (Array.getElem?_eq_some_iff.1 hgb).1
                have hne : w.heap.size ≠ g := by omega
                have hst := (how7.stored (i * 4 + 3) (.slice (some ⟨g6, 0, none⟩) (f.why.length - 1) c6)).1
                have hyW := own_setF (o := i * 4 + 3) (x := .slice (some ⟨g6, 0, none⟩) (f.why.length - 1) c6) hyo7 hgb (by decide)
                have hb2W := hb27.setCell (p := ⟨g, i * 4 + 3, none⟩) (show wE.heap.size ≤ g by omega) (.slice (some ⟨g6, 0, none⟩) (f.why.length - 1) c6)
                have hfcW := (hfc7.below ((Below.refl wE.heap.size w7).setCell (p := ⟨g, i * 4 + 3, none⟩) (show wE.heap.size ≤ g by omega) (.slice (some ⟨g6, 0, none⟩) (f.why.length - 1) c6)) (Nat.le_refl _)).mono hb2W.size
                have hyi := ownsRow_ints hyW (by omega) (List.length_eraseIdx_of_lt hkl)
                have hnew := hfcW.setWhy (i := i) (by rw [HTL.out]; omega) hyi
                rw [cget_take (by omega), ← HF.out, take_set_lastC hlt] at hnew
                have hL := hnew.cts (v := .slice (some ⟨g, 0, none⟩) (i + 1) gc) (by rw [List.length_append, List.length_take, Nat.min_eq_left (by omega)]; exact hst) (Nat.le_refl _) (by simp; omega)
                have hbwW := HBE.out.trans (hb2W.mono HBE.out.size)
                have hver := verify_any p (l.take i ++ [{ f with why := f.why.eraseIdx k }]) _ _ _ _ ((HDV.out.below hbwW hB).mono (Nat.le_trans hB hbwW.size)) ((HRV.out.below hbwW hB).mono (Nat.le_trans hB hbwW.size)) hL (by have := hbwW.size; omega) (Nat.le_refl _) (HT.out.below hbwW hw0)
                have hfew := fewer_ver HPO.out (i := i) (j := k) (by rw [← HL.out]; exact hlt) (by rw [← HL.out, ← HF.out]; exact hkl)
                unfold fewerD at hfew
                rw [← HL.out, ← HF.out] at hfew
                rw [hfew.1, hfew.2] at hver
                have HVER := Lib.hid hver
                have HBN := Lib.hid ((HBW5.out.trans (hb57.mono HBW5.out.size)).setCell (p := ⟨g, i * 4 + 3, none⟩) (show W.heap.size ≤ g from Nat.le_trans HBK.out.size hgl) (.slice (some ⟨g6, 0, none⟩) (f.why.length - 1) c6))
                clear hyo7 hb7 hb57 hb27 how7 hfc7 hgb e0 e1 e2 e4 e5 k7 hst hyW hb2W hfcW hyi hnew hL hbwW hver hfew HDI HOW HFC
                go_wp2_with fail
                refine HVER.out.mono ?_
                rintro e w9 ⟨rfl, hb9⟩
                have HB9 := Lib.hid (HBN.out.trans (hb9.mono HBN.out.size))
                clear hb9 HVER c0 c1 q4 q4f
                go_wp2
                go_roundw
                case rel => exact ⟨k + 1, by omega, by go_num, HB9.out⟩
                case measure => simp [intOf]; omega
              · have hk2 : k = f.why.length := by omega
                subst hk2
                clear hbk
                go_wp2
                go_roundw
                case rel => exact ⟨i + 1, by omega, by go_num, HB.out.trans ((HBF.out.trans (HBK.out.mono HBF.out.size)).mono HB.out.size)⟩
                case measure => simp [intOf]; omega
          · have hi2 : i = l.length := by omega
            subst hi2
            have HBw := Lib.hid (HBE.out.trans (hb.mono HBE.out.size))
            have Kw := Lib.hid (heap_later KE.out hb zEw)
            by_cases h0 : l.length = 0
            · have e0 : (((l.length : Nat) : Int) == 0) = true := by rw [h0]; rfl
              clear h0 hb
              go_wp2_with fail
              refine (works_any _ (HT.out.below HBw.out hw0) (by have := HBw.out.size; omega)).mono ?_
              rintro e1 w9 ⟨rfl, hb9⟩
              have HF := Lib.hid (HBw.out.trans (hb9.mono HBw.out.size))
              clear hb9
              go_wp2
              go_ret
              exact ⟨rfl, HF.out⟩
            · have e0 : (((l.length : Nat) : Int) == 0) = false := by rw [beq_eq_false_iff_ne]; omega
              have hz : ¬ ((l.length : Nat) : Int) = 0 := by omega
              obtain ⟨n, hn⟩ : ∃ n : Nat, n = by_ % l.length := ⟨_, rfl⟩
              have hnl : n < l.length := by rw [hn]; exact Nat.mod_lt _ (by omega)
              have hcv : IntKind.i64.wrap ((by_ : Nat) : Int) = (by_ : Int) := IntWalk.i64_in _ (by omega)
              have hmw : ((by_ : Nat) : Int) % (l.length : Int) = (n : Int) := by rw [hn, Int.natCast_emod]
              have hem : ¬ (l.length : Int) = 0 ∧ (0 : Int) ≤ (by_ : Int) % (l.length : Int) := ⟨hz, Int.emod_nonneg _ (by omega)⟩
              have hwr : wrap64 ((by_ : Int) % (l.length : Int)) = (by_ : Int) % (l.length : Int) := by rw [hmw]; unfold wrap64; omega
              go_upto_region 33 with fail
              rw [hmw]
              clear hwr hem hcv hmw hn e0
              obtain ⟨lb, lo, ov, hla, hlb, hov, l0, l1, l2, l3⟩ := (HCE.out.below hb (Nat.le_refl _)).cells hnl
              subst hla
              obtain ⟨oa, oc, rfl⟩ := hov.slice
              have zl : lb < wr.heap.size := by have := hb.size; omega
              have hb1 := Below.new1 wr (.cells #[.int .i64 (cget l n).var, .int .i64 (cget l n).value, .int .i64 (cget l n).rule, .slice oa (cget l n).why.length oc] 45)
              have hk1 := heap_new0 wr (.cells #[.int .i64 (cget l n).var, .int .i64 (cget l n).value, .int .i64 (cget l n).rule, .slice oa (cget l n).why.length oc] 45)
              obtain ⟨W1, hW1⟩ : ∃ W1, W1 = wr.alloc (.cells #[.int .i64 (cget l n).var, .int .i64 (cget l n).value, .int .i64 (cget l n).rule, .slice oa (cget l n).why.length oc] 45) := ⟨_, rfl⟩
              have hs1 : W1.heap.size = wr.heap.size + 1 := by rw [hW1]; simp
              rw [← hW1] at hb1 hk1
              have hb2 := Below.new1 W1 (.cells #[.slice (some ⟨lb, lo, none⟩) l.length lc, .slice (some ⟨wr.heap.size, 0, none⟩) 1 1] 40)
              have hk2 := heap_new0 W1 (.cells #[.slice (some ⟨lb, lo, none⟩) l.length lc, .slice (some ⟨wr.heap.size, 0, none⟩) 1 1] 40)
              have hbw := hb.trans ((hb1.trans (hb2.mono hb1.size)).mono hb.size)
              have hzE := hb.size
              have HCC := Lib.hid (concat_cuts l [cget l n] (.slice (some ⟨lb, lo, none⟩) l.length lc) (.slice (some ⟨wr.heap.size, 0, none⟩) 1 1) W1.heap.size _ _ (B := wr.heap.size + 1) ((HCE.out.below hbw (Nat.le_refl _)).mono (by omega)) (cts_one (heap_later hk1 hb2 (by omega)) ((hov.below (hb1.trans (hb2.mono hb1.size)) hzE).mono (by omega)) (Nat.lt_succ_self _)) hk2 (by simp; omega) (by omega) (by omega) (by show 1 ≤ 1000; decide))
              rw [hs1, hW1] at HCC
              have HBN := Lib.hid (HBw.out.trans ((hb1.trans (hb2.mono hb1.size)).mono HBw.out.size))
              rw [hW1] at HBN
              have HBR := Lib.hid (hb1.trans (hb2.mono hb1.size))
              rw [hW1] at HBR
              have zwr : w.heap.size < wr.heap.size := (Array.getElem?_eq_some_iff.1 Kw.out).1
              clear hb hov hb1 hk1 hb2 hk2 hbw hW1 hs1
              go_wp2_with fail
              refine HCC.out.mono ?_
              rintro e w8 ⟨cv, rfl, hcf, hb8⟩
              have hbw8 := HBN.out.trans (hb8.mono HBN.out.size)
              have k8 := heap_later (heap_later Kw.out HBR.out zwr) hb8 (by simp; omega)
              obtain ⟨ca, cc, rfl⟩ : ∃ a c, cv = .slice a (l.length + 1) c := by obtain ⟨a, c, h⟩ := hcf.slice; exact ⟨a, c, by rw [h, List.length_append]; rfl⟩
              have hver := verify_any p (l ++ [cget l n]) _ _ _ w8 (B := w8.heap.size) ((HDV.out.below hbw8 hB).mono (by have := hbw8.size; omega)) ((HRV.out.below hbw8 hB).mono (by have := hbw8.size; omega)) hcf (by have := hbw8.size; omega) (Nat.le_refl _) (HT.out.below hbw8 hw0)
              have htw := twice_ver HPO.out (i := n) (by rw [← HL.out]; exact hnl)
              rw [← HL.out] at htw
              rw [htw.1, htw.2] at hver
              have HVER := Lib.hid hver; have HB8 := Lib.hid hbw8; have K8 := Lib.hid k8
              clear hcf hb8 hbw8 k8 hver htw HCC l0 l1 l2 l3
              have c0 : w8.cell? ⟨w.heap.size, 0, none⟩ = some (.slice da p.doms.length dc) := by rw [cell_of_row _ _ _ _ _ _ K8.out]; rfl
              have c1 : w8.cell? ⟨w.heap.size, 1, none⟩ = some (.slice ra p.rules.length rc) := by rw [cell_of_row _ _ _ _ _ _ K8.out]; rfl
              go_wp2_with fail
              refine HVER.out.mono ?_
              rintro e w9 ⟨rfl, hb9⟩
              have HB9 := Lib.hid (HB8.out.trans (hb9.mono HB8.out.size))
              clear hb9 HVER c0 c1
              go_wp2_with fail
              refine (works_any _ (HT.out.below HB9.out hw0) (by have := HB9.out.size; omega)).mono ?_
              rintro e1 w9 ⟨rfl, hb9⟩
              have HF := Lib.hid (HB9.out.trans (hb9.mono HB9.out.size))
              clear hb9
              go_wp2
              go_ret
              exact ⟨rfl, HF.out⟩
end Go.Proofs.YtdmmegmkdhinjaaDoor
