/- The law DomainSound, walked. -/
import Derived.Test.YtdmmegmkdhinjaaDoorPlainZ
import Derived.Test.YtdmmegmkdhinjaaDoorDPop
import Derived.Test.YtdmmegmkdhinjaaDoorFine
import Derived.Test.YtdmmegmkdhinjaaDoorLawO
import Derived.Test.YtdmmegmkdhinjaaDoorLawA
namespace Go.Proofs.YtdmmegmkdhinjaaDoor
open Go Go.RowKit
attribute [local go_sem] cell_grow u64_sAnd u64_sOr u64_sDiff sDiff_all zeqI zneI sAnd_bit_zero sAnd_bit_zeroN sAnd_bit_nonzero

/-- How many values of a domain lie below one. -/
def below (d k : Nat) : Nat := ((List.range k).filter d.testBit).length
theorem below_succ (d k : Nat) : below d (k + 1) = below d k + if d.testBit k then 1 else 0 := by
  unfold below
  rw [List.range_succ, List.filter_append, List.length_append]
  by_cases h : d.testBit k <;> simp [h]
theorem below_16 {d : Nat} (h : d < 65536) : below d 16 = sizeD d := by unfold below sizeD; rw [elems_16 h]
theorem hasD_lt {d k : Nat} (h : k < 16) : hasD d (k : Int) = d.testBit k := by
  unfold hasD inB
  rw [Int.toNat_natCast, decide_eq_true (show (0 : Int) ≤ (k : Int) by omega), decide_eq_true (show (k : Int) ≤ 15 by omega)]; rfl
theorem size_sub {x d : Nat} (hx : x < 65536) (hd : d < 65536) (h : Sub x d) : sizeD x ≤ sizeD d := by
  unfold sizeD
  rw [elems_16 hx, elems_16 hd, ← List.countP_eq_length_filter, ← List.countP_eq_length_filter]
  exact List.countP_mono_left fun i _ hi => h i hi
theorem diff_sub {x d : Nat} (h : Sub x d) : sDiff x d = 0 := by
  apply Nat.eq_of_testBit_eq
  intro i
  rw [sDiff_testBit, Nat.zero_testBit]
  cases hx : x.testBit i
  · rfl
  · rw [h i hx]; rfl
theorem wit_fit {r : Dr} {n : Int} (hr : ruleD r n = true) {us : List Nat} (hl : us.length = r.vars.length) (h : ∀ u ∈ us, u < 16) : HFit r (us.map natI) := by
  have hrp := ruleD_parts hr
  refine ⟨by rw [List.length_map, hl]; have := hrp.2.1; omega, fun hk => ⟨by rw [List.length_map, hl, rule_nums hr hk]; exact Nat.le_refl _, fun i hi => ?_⟩, fun k1 k2 => by rw [List.length_map, hl, rule_two hr k1 k2]; exact Nat.le_refl _, fun i hi => ?_, hrp.2.2.2.1⟩
  · have hf := hrp.2.2.2.2.2
    unfold formD at hf
    rw [if_pos hk] at hf
    simp only [Bool.and_eq_true] at hf
    exact allB_get hf.2 (by rw [rule_nums hr hk]; rw [List.length_map, hl] at hi; exact hi)
  · rw [iget_nat]; have := nget_lt16 h i; omega
/-- The number of a way to choose. -/
def wayN (by_ : List Nat) (i : Nat) : Nat := if 0 < by_.length then nget by_ (i % by_.length) else 0
def Picked (ds vs : List Nat) : Prop := ∀ j, j < vs.length → (nget ds j).testBit (nget vs j) = true
set_option maxRecDepth 100000 in
set_option maxHeartbeats 1000000 in
theorem domainSound_any (p : Dp) (by_ : List Nat) (dv rv yv : Value) (w : World) {B : Nat} (hdv : Us w B dv p.doms) (hrv : DRls w B rv p.rules) (hyv : U8s w B yv by_) (hB0 : 0 < B) (hB : B ≤ w.heap.size) (hu : U64l p.doms) (hT : Tab w) :
    Gives Tryd.prog 5 #[.agg #[dv, rv], yv] w (.bool true) := by
  unfold Gives
  have HDV := Lib.hid hdv; have HRV := Lib.hid hrv; have HYV := Lib.hid hyv; have HT := Lib.hid hT; have HU := Lib.hid hu
  have hw0 : 0 < w.heap.size := by omega
  obtain ⟨da, dc, rfl⟩ := hdv.slice
  obtain ⟨ra, rc, rfl⟩ := hrv.slice
  obtain ⟨ya, yc, rfl⟩ := hyv.slice
  clear hdv hrv hyv hT hu
  have K0 := Lib.hid (heap_new0 w (.cells #[.slice da p.doms.length dc, .slice ra p.rules.length rc] 25)); have HB0 := Lib.hid (Below.new1 w (.cells #[.slice da p.doms.length dc, .slice ra p.rules.length rc] 25))
  obtain ⟨i0, hin, hz0, hz1, hz2⟩ := info_parts info3
  go_enter Tryd.func5, Tryd.ntmps5
  go_wp2_with fail
  refine (fine_any p _ _ _ (HDV.out.below HB0.out hB) (HRV.out.below HB0.out hB) (by simp; omega) HU.out).mono ?_
  rintro e w1 ⟨rfl, hb1⟩
  have HB1 := Lib.hid (HB0.out.trans (hb1.mono (by simp))); have K1 := Lib.hid (heap_later K0.out hb1 (by simp))
  clear hb1 K0 HB0
  have z1 : w.heap.size < w1.heap.size := (Array.getElem?_eq_some_iff.1 K1.out).1
  cases hfi : smallD p && probD p
  case false =>
    clear hfi
    go_wp2_with fail
    refine (works_any _ (HT.out.below HB1.out hw0) (by have := HB1.out.size; omega)).mono ?_
    rintro e1 w9 ⟨rfl, hb9⟩
    have HF := Lib.hid (HB1.out.trans (hb9.mono HB1.out.size))
    clear hb9
    go_wp2
    go_ret
    exact ⟨rfl, HF.out⟩
  case true =>
    have hpo : probD p = true := by rw [Bool.and_eq_true] at hfi; exact hfi.2
    have HPO := Lib.hid hpo
    have hn1 := (probD_parts hpo).1
    have hn8 := (probD_parts hpo).2.1
    have hr12 := (probD_parts hpo).2.2.1
    have hgood : Good (propD p) := run_good hpo (padD_ok hpo)
    have hfew := hgood.few
    obtain ⟨X, hX⟩ : ∃ X, X = (propD p).1.take p.doms.length := ⟨_, rfl⟩
    have hxl : X.length = p.doms.length := by rw [hX]; exact (prop_take hpo).1
    have hxg : ∀ j, nget X j = nget (propD p).1 j := fun j => by rw [← padD_get X, hX, (prop_take hpo).2]
    have hxb : ∀ j, nget X j < 65536 := fun j => by rw [hxg]; exact hgood.f.lt j
    have hxs : ∀ j, Sub (nget X j) (nget p.doms j) := fun j => by rw [hxg, ← padD_get p.doms]; exact run_sub _ j
    have HX := Lib.hid hX; have HXL := Lib.hid hxl; have HXG := Lib.hid hxg; have HXB := Lib.hid hxb; have HXS := Lib.hid hxs
    clear hfi hpo hX hxl hxg hxb hxs hgood
    have c0 : w1.cell? ⟨w.heap.size, 0, none⟩ = some (.slice da p.doms.length dc) := by rw [cell_of_row _ _ _ _ _ _ K1.out]; rfl
    have c1 : w1.cell? ⟨w.heap.size, 1, none⟩ = some (.slice ra p.rules.length rc) := by rw [cell_of_row _ _ _ _ _ _ K1.out]; rfl
    go_wp2_with fail
    refine (propagate_any p _ _ _ (HDV.out.below HB1.out hB) (HRV.out.below HB1.out hB) hB0 (by omega) (HT.out.below HB1.out hw0)).mono ?_
    rintro e w2 ⟨hb2, hp⟩
    obtain ⟨fv, cv, rfl, hfo, hco⟩ : ∃ fv cv, e = .returned (.tuple #[fv, cv, .int .i64 0]) ∧ w2.ownsRow w1.heap.size 53 1 fv p.doms.length (natsV X) ∧ ∃ a c, cv = .slice a (propD p).2.length c := by
      rcases hp with ⟨h, _⟩ | ⟨_, fv, cv, h1, h2, cs, h3, _⟩
      · rw [HPO.out] at h; cases h
      · obtain ⟨a, c, h⟩ := own_form h3
        exact ⟨fv, cv, h1, by rw [HX.out]; exact h2, a, c, h⟩
    obtain ⟨ca, cc, rfl⟩ := hco
    have hln : (propD p).2.length ≤ 128 := by omega
    obtain ⟨ln, hlne⟩ : ∃ n, n = (propD p).2.length := ⟨_, rfl⟩
    rw [← hlne] at hln ⊢
    clear hfew hlne
    have HFO := Lib.hid (owns_us hfo (by have := HXL.out; omega) HXL.out)
    obtain ⟨xa, xc, rfl⟩ := own_form hfo
    have HFR : Hid (Row w2 w2.heap.size 1 (.slice xa p.doms.length xc) p.doms.length (fun i => .int .u64 (nget X i : Nat))) := Lib.hid (by have h := HFO.out; unfold Us at h; rw [HXL.out] at h; exact h)
    have HB2 := Lib.hid (HB1.out.trans (hb2.mono HB1.out.size)); have K2 := Lib.hid (heap_later K1.out hb2 z1)
    have z2 : w.heap.size < w2.heap.size := (Array.getElem?_eq_some_iff.1 K2.out).1
    clear c0 c1 hb2 hfo hp
    have c0 : w2.cell? ⟨w.heap.size, 0, none⟩ = some (.slice da p.doms.length dc) := by rw [cell_of_row _ _ _ _ _ _ K2.out]; rfl
    have c1 : w2.cell? ⟨w.heap.size, 1, none⟩ = some (.slice ra p.rules.length rc) := by rw [cell_of_row _ _ _ _ _ _ K2.out]; rfl
    have hlg : ¬ (130 : Int) < (ln : Int) := by omega
    go_wp2_with fail
    clear c0 c1 hlg
    go_loopw [8, 53] (fun ov iv wr => ∃ (i : Nat) (vs : List Nat), i ≤ p.doms.length ∧ iv = .int .i64 i ∧ vs.length = i ∧ Picked p.doms vs ∧ wr.ownsRow w2.heap.size 3 1 ov i (intsV (vs.map natI)) ∧ Below w2.heap.size w2 wr) (fun _ iv _ => p.doms.length - (intOf iv).toNat)
    case atStart => exact ⟨0, [], Nat.zero_le _, rfl, rfl, fun j hj => by simp at hj, World.ownsRow_nil _ _ _ _, Below.refl _ _⟩
    case round =>
      obtain ⟨i, vs, hi, rfl, hvl, hpk, how, hb⟩ := hrel
      have HPK := Lib.hid hpk; have HOW := Lib.hid how; have HB := Lib.hid hb; have HVL := Lib.hid hvl
      by_cases hlt : i < p.doms.length
      · obtain ⟨_, a', c', hae, _, _, hrow⟩ := (HDV.out.below HB2.out hB).below hb (by omega)
        cases hae
        obtain ⟨b1, o1, rfl, hb1, hc1⟩ := hrow (by omega)
        have q0 : wr.cell? ⟨b1, o1 + i, none⟩ = some (.int .u64 (nget p.doms i : Nat)) := hc1 i (by omega)
        obtain ⟨_, a', c', hae, _, _, hrow⟩ := HFR.out.below hb (Nat.le_refl _)
        cases hae
        obtain ⟨b2, o2, rfl, hb2, hc2⟩ := hrow (by omega)
        have q1 : wr.cell? ⟨b2, o2 + i, none⟩ = some (.int .u64 (nget X i : Nat)) := hc2 i (by omega)
        have zb1 : b1 < wr.heap.size := by have := hb.size; omega
        have zb2 : b2 < wr.heap.size := by have := hb.size; omega
        obtain ⟨d, hd⟩ : ∃ d, d = nget p.doms i := ⟨_, rfl⟩
        obtain ⟨x, hx⟩ : ∃ x, x = nget X i := ⟨_, rfl⟩
        have hd16 : d < 65536 := by rw [hd]; exact (probD_parts HPO.out).2.2.2.1 i
        have hx16 : x < 65536 := by rw [hx]; exact HXB.out i
        have hxd : Sub x d := by rw [hx, hd]; exact HXS.out i
        rw [← hd] at q0
        rw [← hx] at q1
        have hsz : sizeD x ≤ sizeD d := size_sub hx16 hd16 hxd
        have hdiff : sDiff x d = 0 := diff_sub hxd
        have HD := Lib.hid hd; have HX0 := Lib.hid hx
        have HO1 := Lib.hid (ones_any d hd16); have HO2 := Lib.hid (ones_any x hx16)
        clear hrow hc1 hc2 hpk how hb hvl hd hx hxd
        obtain ⟨nd, hnd⟩ : ∃ n, n = sizeD d := ⟨_, rfl⟩
        obtain ⟨nx, hnx⟩ : ∃ n, n = sizeD x := ⟨_, rfl⟩
        have hnd16 : nd ≤ 16 := by rw [hnd]; exact size16 hd16
        rw [← hnd] at HO1 hsz
        rw [← hnx] at HO2 hsz
        have HND := Lib.hid hnd
        have hwr : wrap64 ((nd : Int) - (nx : Int)) = (nd : Int) - (nx : Int) := by unfold wrap64; omega
        have hng : ¬ (nd : Int) - (nx : Int) < 0 := by omega
        have hng2 : ¬ (nd : Int) < (nx : Int) := by omega
        have hng3 : ¬ nd < nx := by omega
        have hu1 : U64 d := Nat.lt_trans hd16 (by decide)
        have hu2 : U64 x := Nat.lt_trans hx16 (by decide)
        clear hnd hnx
        go_wp2_with fail
        refine wp_region_qb (by kernel_rfl) (by kernel_rfl) ?_
        repeat go_big_quiet_step ((first | (with_reducible exact Gives.quiet (Gives.of_same (HO1.out _))) | (with_reducible exact Gives.quiet (Gives.of_same (HO2.out _)))))
        refine wpQuiet_nil ?_
        intro w4 hb4
        have HB24 := Lib.hid (HB.out.trans (hb4.mono HB.out.size))
        have HOW4 := Lib.hid (own_ck HOW.out (CK.below hb4))
        have HB4 := Lib.hid (HB2.out.trans (HB24.out.mono HB2.out.size))
        clear hb4 HB HOW q0 q1 zb1 zb2 HO1 HO2 hwr hng hng2 hng3 hu2 hdiff
        by_cases hd0 : d = 0
        · subst hd0
          go_wp2_with fail
          refine (works_any _ (HT.out.below HB4.out hw0) (by have := HB4.out.size; omega)).mono ?_
          rintro e1 w9 ⟨rfl, hb9⟩
          have HF := Lib.hid (HB4.out.trans (hb9.mono HB4.out.size))
          clear hb9
          go_wp2
          go_ret
          exact ⟨rfl, HF.out⟩
        · have hd0' : ¬ (d : Int) = 0 := by omega
          have hnd0 : 0 < nd := by rw [HND.out]; exact size_pos hd16 hd0
          by_cases hby : 0 < by_.length
          · obtain ⟨_, a', c', hae, _, _, hrow⟩ := (HYV.out.below HB4.out hB).1
            cases hae
            obtain ⟨yb, yo, rfl, hyb, hyc⟩ := hrow hby
            have y0 : w4.cell? ⟨yb, yo + i % by_.length, none⟩ = some (.int .u8 ((nget by_ (i % by_.length) : Nat) : Int)) := hyc _ (by have := Nat.mod_lt i hby; omega)
            have hy8 := HYV.out.2 (i % by_.length)
            have zy : yb < w4.heap.size := by have := HB4.out.size; omega
            have hbyi : (0 : Int) < ((by_.length : Nat) : Int) := by omega
            obtain ⟨y, hy⟩ : ∃ y : Nat, y = nget by_ (i % by_.length) := ⟨_, rfl⟩
            rw [← hy] at y0 hy8
            have hcv : IntKind.i64.wrap ((y : Nat) : Int) = (y : Int) := IntWalk.i64_in _ (by omega)
            have hm0 : (0 : Int) ≤ (i : Int) % ((by_.length : Nat) : Int) := Int.emod_nonneg _ (by omega)
            have hm1 : (i : Int) % ((by_.length : Nat) : Int) < ((by_.length : Nat) : Int) := Int.emod_lt_of_pos _ hbyi
            clear hrow hyc hy
            go_wp2_with fail
            clear y0 zy hcv hm0 hm1 hd0'
            refine (ones_any d hd16 _).mono ?_
            rintro e w5 ⟨rfl, hw5⟩
            rw [← HND.out, hw5]
            clear hw5
            obtain ⟨m0, hm0⟩ : ∃ m : Nat, m = (y) % nd := ⟨_, rfl⟩
            have hml : m0 < nd := by rw [hm0]; exact Nat.mod_lt _ (by omega)
            have hmw : ((y : Nat) : Int) % (nd : Int) = (m0 : Int) := by rw [hm0, Int.natCast_emod]
            have hmq : wrap64 (((y : Nat) : Int) % (nd : Int)) = (m0 : Int) := by rw [hmw]; unfold wrap64; omega
            have HM0 := Lib.hid hm0
            clear hm0
            go_wp2_with fail
            try rw [hmw]
            clear hmw hmq
            go_loopw [8, 11, 94] (fun ov nv kv wr => ∃ (k : Nat) (m : Int) (us : List Nat), k ≤ 16 ∧ kv = .int .i64 k ∧ nv = .int .i64 m ∧ m = (m0 : Int) - (below d k : Int) ∧ ((0 ≤ m ∧ us = vs) ∨ (m < 0 ∧ ∃ u, u < 16 ∧ d.testBit u = true ∧ us = vs ++ [u])) ∧ wr.ownsRow w2.heap.size 3 1 ov us.length (intsV (us.map natI)) ∧ Below w2.heap.size w2 wr) (fun _ _ kv _ => 16 - (intOf kv).toNat)
            case atStart => exact ⟨0, (m0 : Int), vs, by omega, rfl, by first | rfl | (rw [HM0.out, Nat.zero_mod]; rfl), by show _ = (m0 : Int) - ((0 : Nat) : Int); omega, .inl ⟨by omega, rfl⟩, by rw [HVL.out]; exact HOW4.out, HB24.out⟩
            case round =>
              clear HOW4 HB24 HM0
              obtain ⟨k, m, us, hk, rfl, rfl, hmb, hus, how, hb⟩ := hrel
              have hbs := below_succ d k
              have hbk : below d k ≤ 16 := by unfold below; have := List.length_filter_le d.testBit (List.range k); rw [List.length_range] at this; omega
              have HOW := Lib.hid how; have HB := Lib.hid hb; have HUS := Lib.hid hus; have HBS := Lib.hid hbs; have HMB := Lib.hid hmb
              have hul : us.length ≤ 9 := by rcases hus with ⟨_, h⟩ | ⟨_, u, _, _, h⟩ <;> rw [h] <;> (try rw [List.length_append]) <;> have := HVL.out <;> simp <;> omega
              clear how hb hus hbs hmb
              by_cases hlt : k < 16
              · have hlt' : (k : Int) < 16 := by omega
                go_wp2_with fail
                refine (refHas_any d (k : Int) wr hu1).mono ?_
                rintro e w6 ⟨rfl, hw6⟩
                rw [hw6]
                clear hw6
                have hhd : hasD d (k : Int) = d.testBit k := hasD_lt hlt
                rw [hhd]
                clear hhd
                have hbs2 := HBS.out
                cases hbit : d.testBit k
                case false =>
                  rw [hbit, if_neg (by decide), Nat.add_zero] at hbs2
                  have HM2 : Hid (m = (m0 : Int) - (below d (k + 1) : Int)) := Lib.hid (by rw [hbs2]; exact HMB.out)
                  clear hbs2 hbit
                  go_wp2_with fail
                  go_roundw
                  case rel => exact ⟨k + 1, m, us, by omega, by go_num, rfl, HM2.out, HUS.out, HOW.out, HB.out⟩
                  case measure => simp [intOf]; omega
                case true =>
                  rw [hbit, if_pos rfl] at hbs2
                  have HM2 : Hid (m - 1 = (m0 : Int) - (below d (k + 1) : Int)) := Lib.hid (by rw [hbs2]; have := HMB.out; omega)
                  have HBIT := Lib.hid hbit
                  clear hbs2 hbit HBS
                  by_cases hm0 : m = 0
                  · have husv : us = vs := by
                      rcases HUS.out with ⟨_, h⟩ | ⟨h, _⟩
                      · exact h
                      · omega
                    subst husv
                    rw [hm0] at HM2 ⊢
                    clear hm0 HMB HUS
                    have HNW := Lib.hid (Below.new1 wr (.cells #[.int .i64 k] 3))
                    go_wp2_with (at_builtin; refine wpList_append_own _ rfl _ _ 30 rfl w2.heap.size 3 i0 (.int .i64 0) 1 8 Tryd.underlying30 hin hz0 hz1 hz2 rfl (by decide) _ _ _ rfl (HOW.out.alloc _) ⟨wr.heap.size, 0, none⟩ 1 1 (intsV [(k : Int)]) rfl rfl ?c1 ?c2 ?c3 ?c4 ?c5 ?_)
                    case c1 =>
                      intro q u hq
                      match q, hq with
                      | 0, hq => cases hq; rw [Addr.add_lit, Nat.zero_add, cell_of_row _ _ _ _ _ _ (heap_new0 wr _)]; rfl
                    case c2 => exact ints_one _
                    case c3 => unfold maxLen; omega
                    case c4 => omega
                    case c5 => have := HB.out.size; simp; omega
                    intro v' w7 hown7 hgrow7 _
                    have hb7 := ((HB.out.trans (HNW.out.mono HB.out.size)).grown hgrow7 (by have := HB.out.size; simp; omega) (fun q hq => (HOW.out.lt q hq).1))
                    rw [intsV_append] at hown7
                    have HO7 : Hid (w7.ownsRow w2.heap.size 3 1 v' (us ++ [k]).length (intsV ((us ++ [k]).map natI))) := Lib.hid (by rw [List.length_append, List.map_append]; exact hown7)
                    have HB7 := Lib.hid hb7
                    clear hown7 hgrow7 hb7
                    go_wp2_with fail
                    go_roundw
                    case rel => exact ⟨k + 1, -1, us ++ [k], by omega, by go_num, by first | rfl | go_num, by have := HM2.out; omega, .inr ⟨by omega, k, hlt, HBIT.out, rfl⟩, HO7.out, HB7.out⟩
                    case measure => simp [intOf]; omega
                  · have HWM : Hid (wrap64 (m - 1) = m - 1) := Lib.hid (by have := HMB.out; unfold wrap64; omega)
                    go_wp2_with fail
                    go_roundw
                    case rel => exact ⟨k + 1, m - 1, us, by omega, by go_num, by rw [HWM.out], HM2.out, by
                      rcases HUS.out with ⟨h, h2⟩ | ⟨h, h2⟩
                      · exact .inl ⟨by omega, h2⟩
                      · exact .inr ⟨by omega, h2⟩, HOW.out, HB.out⟩
                    case measure => simp [intOf]; omega
              · have hk16 : k = 16 := by omega
                subst hk16
                have hmn : m < 0 := by rw [HMB.out, below_16 hd16, ← HND.out]; omega
                obtain ⟨u, hu16, hub, hue⟩ : ∃ u, u < 16 ∧ d.testBit u = true ∧ us = vs ++ [u] := by
                  rcases HUS.out with ⟨h, _⟩ | ⟨_, h⟩
                  · omega
                  · exact h
                have hulen : us.length = i + 1 := by rw [hue, List.length_append, HVL.out]; rfl
                have HPK2 : Hid (Picked p.doms us) := Lib.hid (by
                  rw [hue]; intro j hj
                  rw [List.length_append, HVL.out] at hj
                  by_cases hji : j < i
                  · have e : nget (vs ++ [u]) j = nget vs j := by unfold nget; rw [List.getElem?_append_left (by rw [HVL.out]; exact hji)]
                    rw [e]; exact HPK.out j (by rw [HVL.out]; exact hji)
                  · have hji : j = i := by simp at hj; omega
                    subst hji
                    have e : nget (vs ++ [u]) j = u := by unfold nget; rw [List.getElem?_append_right (by rw [HVL.out]; omega), HVL.out]; simp
                    rw [e, ← HD.out]; exact hub)
                have hown9 := HOW.out
                rw [hulen] at hown9
                have HOW9 := Lib.hid hown9
                clear hown9 hmn hue hub hu16
                go_wp2_with fail
                go_roundw
                case rel => exact ⟨i + 1, us, by omega, by go_num, hulen, HPK2.out, HOW9.out, HB.out⟩
                case measure => simp [intOf]; omega
          · have hby0 : ¬ (0 : Int) < ((by_.length : Nat) : Int) := by omega
            go_wp2_with fail
            clear hby0 hd0'
            refine (ones_any d hd16 _).mono ?_
            rintro e w5 ⟨rfl, hw5⟩
            rw [← HND.out, hw5]
            clear hw5
            obtain ⟨m0, hm0⟩ : ∃ m : Nat, m = (0) % nd := ⟨_, rfl⟩
            have hml : m0 < nd := by rw [hm0]; exact Nat.mod_lt _ (by omega)
            have hmw : ((0 : Nat) : Int) % (nd : Int) = (m0 : Int) := by rw [hm0, Int.natCast_emod]
            have hmq : wrap64 (((0 : Nat) : Int) % (nd : Int)) = (m0 : Int) := by rw [hmw]; unfold wrap64; omega
            have HM0 := Lib.hid hm0
            clear hm0
            go_wp2_with fail
            try rw [hmw]
            clear hmw hmq
            go_loopw [8, 11, 94] (fun ov nv kv wr => ∃ (k : Nat) (m : Int) (us : List Nat), k ≤ 16 ∧ kv = .int .i64 k ∧ nv = .int .i64 m ∧ m = (m0 : Int) - (below d k : Int) ∧ ((0 ≤ m ∧ us = vs) ∨ (m < 0 ∧ ∃ u, u < 16 ∧ d.testBit u = true ∧ us = vs ++ [u])) ∧ wr.ownsRow w2.heap.size 3 1 ov us.length (intsV (us.map natI)) ∧ Below w2.heap.size w2 wr) (fun _ _ kv _ => 16 - (intOf kv).toNat)
            case atStart => exact ⟨0, (m0 : Int), vs, by omega, rfl, by first | rfl | (rw [HM0.out, Nat.zero_mod]; rfl), by show _ = (m0 : Int) - ((0 : Nat) : Int); omega, .inl ⟨by omega, rfl⟩, by rw [HVL.out]; exact HOW4.out, HB24.out⟩
            case round =>
              clear HOW4 HB24 HM0
              obtain ⟨k, m, us, hk, rfl, rfl, hmb, hus, how, hb⟩ := hrel
              have hbs := below_succ d k
              have hbk : below d k ≤ 16 := by unfold below; have := List.length_filter_le d.testBit (List.range k); rw [List.length_range] at this; omega
              have HOW := Lib.hid how; have HB := Lib.hid hb; have HUS := Lib.hid hus; have HBS := Lib.hid hbs; have HMB := Lib.hid hmb
              have hul : us.length ≤ 9 := by rcases hus with ⟨_, h⟩ | ⟨_, u, _, _, h⟩ <;> rw [h] <;> (try rw [List.length_append]) <;> have := HVL.out <;> simp <;> omega
              clear how hb hus hbs hmb
              by_cases hlt : k < 16
              · have hlt' : (k : Int) < 16 := by omega
                go_wp2_with fail
                refine (refHas_any d (k : Int) wr hu1).mono ?_
                rintro e w6 ⟨rfl, hw6⟩
                rw [hw6]
                clear hw6
                have hhd : hasD d (k : Int) = d.testBit k := hasD_lt hlt
                rw [hhd]
                clear hhd
                have hbs2 := HBS.out
                cases hbit : d.testBit k
                case false =>
                  rw [hbit, if_neg (by decide), Nat.add_zero] at hbs2
                  have HM2 : Hid (m = (m0 : Int) - (below d (k + 1) : Int)) := Lib.hid (by rw [hbs2]; exact HMB.out)
                  clear hbs2 hbit
                  go_wp2_with fail
                  go_roundw
                  case rel => exact ⟨k + 1, m, us, by omega, by go_num, rfl, HM2.out, HUS.out, HOW.out, HB.out⟩
                  case measure => simp [intOf]; omega
                case true =>
                  rw [hbit, if_pos rfl] at hbs2
                  have HM2 : Hid (m - 1 = (m0 : Int) - (below d (k + 1) : Int)) := Lib.hid (by rw [hbs2]; have := HMB.out; omega)
                  have HBIT := Lib.hid hbit
                  clear hbs2 hbit HBS
                  by_cases hm0 : m = 0
                  · have husv : us = vs := by
                      rcases HUS.out with ⟨_, h⟩ | ⟨h, _⟩
                      · exact h
                      · omega
                    subst husv
                    rw [hm0] at HM2 ⊢
                    clear hm0 HMB HUS
                    have HNW := Lib.hid (Below.new1 wr (.cells #[.int .i64 k] 3))
                    go_wp2_with (at_builtin; refine wpList_append_own _ rfl _ _ 30 rfl w2.heap.size 3 i0 (.int .i64 0) 1 8 Tryd.underlying30 hin hz0 hz1 hz2 rfl (by decide) _ _ _ rfl (HOW.out.alloc _) ⟨wr.heap.size, 0, none⟩ 1 1 (intsV [(k : Int)]) rfl rfl ?c1 ?c2 ?c3 ?c4 ?c5 ?_)
                    case c1 =>
                      intro q u hq
                      match q, hq with
                      | 0, hq => cases hq; rw [Addr.add_lit, Nat.zero_add, cell_of_row _ _ _ _ _ _ (heap_new0 wr _)]; rfl
                    case c2 => exact ints_one _
                    case c3 => unfold maxLen; omega
                    case c4 => omega
                    case c5 => have := HB.out.size; simp; omega
                    intro v' w7 hown7 hgrow7 _
                    have hb7 := ((HB.out.trans (HNW.out.mono HB.out.size)).grown hgrow7 (by have := HB.out.size; simp; omega) (fun q hq => (HOW.out.lt q hq).1))
                    rw [intsV_append] at hown7
                    have HO7 : Hid (w7.ownsRow w2.heap.size 3 1 v' (us ++ [k]).length (intsV ((us ++ [k]).map natI))) := Lib.hid (by rw [List.length_append, List.map_append]; exact hown7)
                    have HB7 := Lib.hid hb7
                    clear hown7 hgrow7 hb7
                    go_wp2_with fail
                    go_roundw
                    case rel => exact ⟨k + 1, -1, us ++ [k], by omega, by go_num, by first | rfl | go_num, by have := HM2.out; omega, .inr ⟨by omega, k, hlt, HBIT.out, rfl⟩, HO7.out, HB7.out⟩
                    case measure => simp [intOf]; omega
                  · have HWM : Hid (wrap64 (m - 1) = m - 1) := Lib.hid (by have := HMB.out; unfold wrap64; omega)
                    go_wp2_with fail
                    go_roundw
                    case rel => exact ⟨k + 1, m - 1, us, by omega, by go_num, by rw [HWM.out], HM2.out, by
                      rcases HUS.out with ⟨h, h2⟩ | ⟨h, h2⟩
                      · exact .inl ⟨by omega, h2⟩
                      · exact .inr ⟨by omega, h2⟩, HOW.out, HB.out⟩
                    case measure => simp [intOf]; omega
              · have hk16 : k = 16 := by omega
                subst hk16
                have hmn : m < 0 := by rw [HMB.out, below_16 hd16, ← HND.out]; omega
                obtain ⟨u, hu16, hub, hue⟩ : ∃ u, u < 16 ∧ d.testBit u = true ∧ us = vs ++ [u] := by
                  rcases HUS.out with ⟨h, _⟩ | ⟨_, h⟩
                  · omega
                  · exact h
                have hulen : us.length = i + 1 := by rw [hue, List.length_append, HVL.out]; rfl
                have HPK2 : Hid (Picked p.doms us) := Lib.hid (by
                  rw [hue]; intro j hj
                  rw [List.length_append, HVL.out] at hj
                  by_cases hji : j < i
                  · have e : nget (vs ++ [u]) j = nget vs j := by unfold nget; rw [List.getElem?_append_left (by rw [HVL.out]; exact hji)]
                    rw [e]; exact HPK.out j (by rw [HVL.out]; exact hji)
                  · have hji : j = i := by simp at hj; omega
                    subst hji
                    have e : nget (vs ++ [u]) j = u := by unfold nget; rw [List.getElem?_append_right (by rw [HVL.out]; omega), HVL.out]; simp
                    rw [e, ← HD.out]; exact hub)
                have hown9 := HOW.out
                rw [hulen] at hown9
                have HOW9 := Lib.hid hown9
                clear hown9 hmn hue hub hu16
                go_wp2_with fail
                go_roundw
                case rel => exact ⟨i + 1, us, by omega, by go_num, hulen, HPK2.out, HOW9.out, HB.out⟩
                case measure => simp [intOf]; omega
      · have hin : i = p.doms.length := by omega
        subst hin
        have hl16 : ∀ v ∈ vs, v < 16 := inD_lt (ds := p.doms) ⟨HVL.out, fun j hj => HPK.out j (by rw [HVL.out]; exact hj)⟩ (probD_parts HPO.out).2.2.2.1
        have hmlen : (vs.map natI).length = p.doms.length := by rw [List.length_map]; exact HVL.out
        have HOI := Lib.hid (ownsRow_ints how (by omega) hmlen)
        have HVA : Hid (Vals16 p (vs.map natI)) := Lib.hid ⟨hmlen, fun j => by rw [iget_nat]; have := nget_lt16 hl16 j; omega⟩
        obtain ⟨oa, oc, rfl⟩ := own_form how
        have HBw := Lib.hid (HB2.out.trans (hb.mono HB2.out.size))
        have KW := Lib.hid (heap_later K2.out hb z2)
        have zW : w.heap.size < wr.heap.size := (Array.getElem?_eq_some_iff.1 KW.out).1
        have HLH := Lib.hid (lawHolds_any p (vs.map natI) HPO.out HVA.out (.slice da p.doms.length dc) (.slice ra p.rules.length rc) (.slice oa p.doms.length oc) wr (B := wr.heap.size) ((HDV.out.below HBw.out hB).mono (by omega)) ((HRV.out.below HBw.out hB).mono (by omega)) HOI.out (Nat.le_refl _))
        clear how hb hvl hpk hmlen hlt hi hl16 HOW
        have c0 : wr.cell? ⟨w.heap.size, 0, none⟩ = some (.slice da p.doms.length dc) := by rw [cell_of_row _ _ _ _ _ _ KW.out]; rfl
        have c1 : wr.cell? ⟨w.heap.size, 1, none⟩ = some (.slice ra p.rules.length rc) := by rw [cell_of_row _ _ _ _ _ _ KW.out]; rfl
        go_wp2_with fail
        refine HLH.out.mono ?_
        rintro e w5 ⟨rfl, hb5⟩
        have HB25 := Lib.hid (HB.out.trans (hb5.mono HB.out.size))
        clear c0 c1 HLH
        cases hah : allHold p (vs.map natI)
        case false =>
          clear hah HB HBw KW zW
          clear hb5
          have HBw := Lib.hid (HB2.out.trans (HB25.out.mono HB2.out.size))
          have HFX := Lib.hid (HFO.out.below HB25.out (Nat.le_refl _))
          have HEM := Lib.hid (lawEmpty_any X _ w5 HFX.out)
          cases hem : X.contains 0
          case true =>
            rw [hem] at HEM
            clear hem
            go_wp2_with fail
            refine HEM.out.mono ?_
            rintro e w6 ⟨rfl, hb6⟩
            have HB6 := Lib.hid (HBw.out.trans (hb6.mono HBw.out.size))
            clear hb6 HEM
            go_wp2_with fail
            refine (works_any _ (HT.out.below HB6.out hw0) (by have := HB6.out.size; omega)).mono ?_
            rintro e1 w9 ⟨rfl, hb9⟩
            have HF := Lib.hid (HB6.out.trans (hb9.mono HB6.out.size))
            clear hb9
            go_wp2
            go_ret
            exact ⟨rfl, HF.out⟩
          case false =>
            have hnv : ¬ Void p (propD p).1 := fun h => by
              have h2 := (void_iff HPO.out).2 h
              rw [← HX.out, hem] at h2; cases h2
            have HNV := Lib.hid hnv
            rw [hem] at HEM
            clear hem hnv
            go_wp2_with fail
            refine HEM.out.mono ?_
            rintro e w6 ⟨rfl, hb6⟩
            have HB26 := Lib.hid (HB25.out.trans (hb6.mono HB25.out.size))
            have HB6 := Lib.hid (HB2.out.trans (HB26.out.mono HB2.out.size))
            have K6 := Lib.hid (heap_later K2.out HB26.out z2)
            have z6 : w.heap.size < w6.heap.size := (Array.getElem?_eq_some_iff.1 K6.out).1
            clear hb6 HEM HBw HFX HB25
            have c0 : w6.cell? ⟨w.heap.size, 0, none⟩ = some (.slice da p.doms.length dc) := by rw [cell_of_row _ _ _ _ _ _ K6.out]; rfl
            have c1 : w6.cell? ⟨w.heap.size, 1, none⟩ = some (.slice ra p.rules.length rc) := by rw [cell_of_row _ _ _ _ _ _ K6.out]; rfl
            go_upto_region 39 with fail
            refine abs_wp (fun Z => Z.heap[w6.heap.size]? = some (.cells #[.slice xa p.doms.length xc, .slice ra p.rules.length rc] 25 (0, 0)) ∧ Below w6.heap.size w6 Z) ⟨heap_new0 _ _, Below.new1 _ _⟩ ?_
            clear c0 c1
            rintro W7 ⟨kq, hbq⟩
            have zq : w6.heap.size < W7.heap.size := (Array.getElem?_eq_some_iff.1 kq).1
            have KQ := Lib.hid kq
            have HB27 := Lib.hid (HB26.out.trans (hbq.mono HB26.out.size))
            have HB7 := Lib.hid (HB2.out.trans (HB27.out.mono HB2.out.size))
            have K7 := Lib.hid (heap_later K6.out hbq z6)
            have z27 := HB27.out.size
            clear kq hbq HB26 HB6 K6
            have c0 : W7.cell? ⟨w.heap.size, 0, none⟩ = some (.slice da p.doms.length dc) := by rw [cell_of_row _ _ _ _ _ _ K7.out]; rfl
            have c1 : W7.cell? ⟨w.heap.size, 1, none⟩ = some (.slice ra p.rules.length rc) := by rw [cell_of_row _ _ _ _ _ _ K7.out]; rfl
            go_wp2_with fail
            clear c0 c1
            go_loopw [143] (fun jv wr => ∃ j : Nat, j ≤ p.rules.length ∧ jv = .int .i64 j ∧ Below W7.heap.size W7 wr) (fun jv _ => p.rules.length - (intOf jv).toNat)
            case atStart => exact ⟨0, Nat.zero_le _, rfl, Below.refl _ _⟩
            case round =>
              obtain ⟨j, hj, rfl, hb⟩ := hrel
              have HB := Lib.hid hb
              by_cases hlt : j < p.rules.length
              · have hbw := HB7.out.trans (hb.mono HB7.out.size)
                obtain ⟨cR, hcRow, hcR⟩ := HRV.out.below hbw hB
                obtain ⟨_, a', c', hae, _, _, hrow⟩ := hcRow
                cases hae
                obtain ⟨rb, ro, rfl, hrb, hcell⟩ := hrow (by omega)
                obtain ⟨hc0, hcv, hcn, hc3⟩ := hcR j hlt
                obtain ⟨va, vc, hc1⟩ := hcv.slice
                obtain ⟨na, nc, hc2⟩ := hcn.slice
                have hruat : RuleAt wr B (drget p.rules j) (.slice va (drget p.rules j).vars.length vc) (.slice na (drget p.rules j).nums.length nc) := ⟨by rw [← hc1]; exact hcv, by rw [← hc2]; exact hcn⟩
                have q0 : wr.cell? ⟨rb, ro + j * 4, none⟩ = some (.int .i64 (drget p.rules j).kind) := by rw [hcell _ (by omega), hc0]
                have q1 : wr.cell? ⟨rb, ro + j * 4 + 1, none⟩ = some (.slice va (drget p.rules j).vars.length vc) := by rw [← hc1]; exact hcell (j * 4 + 1) (by omega)
                have q2 : wr.cell? ⟨rb, ro + j * 4 + 2, none⟩ = some (.slice na (drget p.rules j).nums.length nc) := by rw [← hc2]; exact hcell (j * 4 + 2) (by omega)
                have q3 : wr.cell? ⟨rb, ro + j * 4 + 3, none⟩ = some (.int .i64 (drget p.rules j).n) := by rw [← hc3]; exact hcell (j * 4 + 3) (by omega)
                have hrd := (probD_parts HPO.out).2.2.2.2 j hlt
                have zr : rb < wr.heap.size := by have := hbw.size; omega
                obtain ⟨r, hr⟩ : ∃ r, r = drget p.rules j := ⟨_, rfl⟩
                rw [← hr] at q0 q1 q2 q3 hruat hrd
                have HR := Lib.hid hr; have HRU := Lib.hid hruat; have HRD := Lib.hid hrd
                have hv4 := (ruleD_parts hrd).2.1
                obtain ⟨wo, rfl⟩ : ∃ wo : World, wo = wr := ⟨_, rfl⟩
                clear hb hbw hcR hcell hrow hc0 hcv hcn hc3 hc1 hc2 hruat hr hrd
                go_upto_region 42 with fail
                refine abs_wp (fun Z => Z.heap[wo.heap.size]? = some (.cells #[.int .i64 r.kind, .slice va r.vars.length vc, .slice na r.nums.length nc, .int .i64 r.n] 35 (0, 0)) ∧ Below wo.heap.size wo Z) ⟨heap_new0 _ _, Below.new1 _ _⟩ ?_
                clear q0 q1 q2 q3 zr
                rintro R ⟨kr, hbr⟩
                have KR := Lib.hid kr
                have zk : wo.heap.size < R.heap.size := (Array.getElem?_eq_some_iff.1 kr).1
                have HBR := Lib.hid (HB.out.trans (hbr.mono HB.out.size))
                have HB2R := Lib.hid (HB27.out.trans (HBR.out.mono HB27.out.size))
                have HBWR := Lib.hid (HB2.out.trans (HB2R.out.mono HB2.out.size))
                have KQR := Lib.hid (heap_later KQ.out HBR.out zq)
                have hzo := HB.out.size
                have HRU2 := Lib.hid ((HRU.out.below hbr (by have := HB7.out.size; omega)).mono (show B ≤ R.heap.size by have := HBWR.out.size; omega))
                have r1 : R.cell? ⟨wo.heap.size, 1, none⟩ = some (.slice va r.vars.length vc) := by rw [cell_of_row _ _ _ _ _ _ kr]; rfl
                clear kr hbr HRU HB
                go_wp2_with fail
                clear r1
                go_loopw [151] (fun av wr => ∃ a : Nat, a ≤ r.vars.length ∧ av = .int .i64 a ∧ Below R.heap.size R wr) (fun av _ => r.vars.length - (intOf av).toNat)
                case atStart => exact ⟨0, Nat.zero_le _, rfl, Below.refl _ _⟩
                case round =>
                  obtain ⟨a, ha, rfl, hb⟩ := hrel
                  have HB := Lib.hid hb
                  by_cases hla : a < r.vars.length
                  · obtain ⟨_, a', c', hae, _, _, hrow⟩ := HRU2.out.vars.below hb (Nat.le_refl _)
                    cases hae
                    obtain ⟨vb, vo, rfl, hvb, hvc⟩ := hrow (by omega)
                    have p0 : wr.cell? ⟨vb, vo + a, none⟩ = some (.int .i64 (iget r.vars a)) := hvc a (by omega)
                    have zvb : vb < wr.heap.size := by have := hb.size; omega
                    have hxr := (ruleD_parts HRD.out).2.2.1 a hla
                    obtain ⟨x, hx⟩ : ∃ x : Nat, iget r.vars a = x := ⟨(iget r.vars a).toNat, by omega⟩
                    rw [hx] at p0 hxr
                    have hxn : x < p.doms.length := by omega
                    have HXA := Lib.hid hx
                    clear hrow hvc hb hx hxr
                    go_wp2_with fail
                    clear p0 zvb
                    go_loopw [156] (fun kv wr => ∃ v : Nat, v ≤ 16 ∧ kv = .int .i64 v ∧ Below R.heap.size R wr) (fun kv _ => 16 - (intOf kv).toNat)
                    case atStart => exact ⟨0, by omega, rfl, HB.out⟩
                    case round =>
                      clear HB
                      obtain ⟨v, hv, rfl, hb⟩ := hrel
                      have HB := Lib.hid hb
                      by_cases hlv : v < 16
                      · have hlv' : (v : Int) < 16 := by omega
                        have kq8 := heap_later KQR.out hb (by have := HBR.out.size; omega)
                        have s0 : wr.cell? ⟨w6.heap.size, 0, none⟩ = some (.slice xa p.doms.length xc) := by rw [cell_of_row _ _ _ _ _ _ kq8]; rfl
                        have s1 : wr.cell? ⟨w6.heap.size, 1, none⟩ = some (.slice (some ⟨rb, ro, none⟩) p.rules.length rc) := by rw [cell_of_row _ _ _ _ _ _ kq8]; rfl
                        have zs : w6.heap.size < wr.heap.size := (Array.getElem?_eq_some_iff.1 kq8).1
                        have hbw := HBWR.out.trans (hb.mono HBWR.out.size)
                        have hb2w := HB2R.out.trans (hb.mono HB2R.out.size)
                        have HSUP := Lib.hid (support_any (leftP p) j a v (.slice xa p.doms.length xc) (.slice (some ⟨rb, ro, none⟩) p.rules.length rc) wr (B := wr.heap.size) (by rw [show (leftP p).doms = X from HX.out.symm]; exact (HFO.out.below hb2w (Nat.le_refl _)).mono hb2w.size) ((HRV.out.below hbw hB).mono (by have := hbw.size; omega)) (by have := hbw.size; omega) (Nat.le_refl _) (HT.out.below hbw hw0))
                        have hle := left_err HPO.out HNV.out hlt (a := a) (by rw [← HR.out]; exact hla) v
                        rw [← HR.out, HXA.out, Int.toNat_natCast, ← HXG.out] at hle
                        have HLE := Lib.hid hle
                        have HB2W := Lib.hid hb2w
                        clear kq8 hb hbw hle hb2w
                        go_wp2_with fail
                        refine HSUP.out.mono ?_
                        rintro e w9 ⟨lv, rfl, hlo, hb9⟩
                        rw [HLE.out]
                        have HB9 := Lib.hid (HB.out.trans (hb9.mono HB.out.size))
                        have HB29 := Lib.hid (HB2W.out.trans (hb9.mono HB2W.out.size))
                        have hux : U64 (nget X x) := Nat.lt_trans (HXB.out x) (by decide)
                        obtain ⟨_, a', c', hae, _, _, hrow⟩ := HFR.out.below HB29.out (Nat.le_refl _)
                        cases hae
                        obtain ⟨xb, xo, rfl, hxb, hxc⟩ := hrow (by omega)
                        have g0 : w9.cell? ⟨xb, xo + x, none⟩ = some (.int .u64 (nget X x : Nat)) := hxc x (by omega)
                        have zxb : xb < w9.heap.size := by have := HB29.out.size; omega
                        clear s0 s1 zs HSUP hrow hxc HB2W hb9
                        cases hh : hasD (nget X x) (v : Int)
                        case false =>
                          obtain ⟨la, ln2, lc, rfl⟩ : ∃ a n c, lv = .slice a n c := by obtain ⟨a, c, h⟩ := own_form hlo; exact ⟨a, _, c, h⟩
                          have HH := Lib.hid hh
                          clear hlo hh
                          rw [if_neg (by decide)]
                          go_wp2_with fail
                          refine (refHas_any (nget X x) (v : Int) w9 hux).mono ?_
                          rintro e w10 ⟨rfl, hw10⟩
                          rw [hw10, HH.out]
                          clear hw10 g0
                          go_wp2_with fail
                          go_roundw
                          case rel => exact ⟨v + 1, by omega, by go_num, HB9.out⟩
                          case measure => simp [intOf]; omega
                        case true =>
                          obtain ⟨us, hwit⟩ := left_wit HPO.out HNV.out hlt (a := a) (by rw [← HR.out]; exact hla) (v := v) (by rw [← HR.out, HXA.out, Int.toNat_natCast, ← HXG.out]; exact hh)
                          have hul : us.length = r.vars.length := by rw [hwit.len, ← HR.out]
                          rw [hwit.list, List.length_map, hul] at hlo
                          have hul2 : (us.map natI).length = r.vars.length := by rw [List.length_map, hul]
                          have HLV := Lib.hid (ownsRow_ints hlo (by omega) hul2)
                          obtain ⟨la, lc, rfl⟩ := own_form hlo
                          have HLR : Hid (Row w9 w9.heap.size 1 (.slice la r.vars.length lc) r.vars.length (fun i => .int .i64 (nget us i : Nat))) := Lib.hid (by
                            have h := HLV.out; unfold Ints at h; rw [hul2] at h; exact h.congr fun i _ => by rw [iget_nat])
                          have HH := Lib.hid hh; have HWIT := Lib.hid hwit; have HUL := Lib.hid hul
                          clear hlo hh hwit hul hul2
                          rw [if_pos rfl]
                          go_wp2_with fail
                          refine (refHas_any (nget X x) (v : Int) w9 hux).mono ?_
                          rintro e w10 ⟨rfl, hw10⟩
                          rw [hw10, HH.out]
                          clear hw10 g0
                          have kr9 := heap_later KR.out HB9.out zk
                          have r0 : w9.cell? ⟨wo.heap.size, 0, none⟩ = some (.int .i64 r.kind) := by rw [cell_of_row _ _ _ _ _ _ kr9]; rfl
                          have r1 : w9.cell? ⟨wo.heap.size, 1, none⟩ = some (.slice (some ⟨vb, vo, none⟩) r.vars.length vc) := by rw [cell_of_row _ _ _ _ _ _ kr9]; rfl
                          have r2 : w9.cell? ⟨wo.heap.size, 2, none⟩ = some (.slice na r.nums.length nc) := by rw [cell_of_row _ _ _ _ _ _ kr9]; rfl
                          have r3 : w9.cell? ⟨wo.heap.size, 3, none⟩ = some (.int .i64 r.n) := by rw [cell_of_row _ _ _ _ _ _ kr9]; rfl
                          have zr9 : wo.heap.size < w9.heap.size := (Array.getElem?_eq_some_iff.1 kr9).1
                          obtain ⟨_, a', c', hae, _, _, hrow⟩ := HLR.out
                          cases hae
                          obtain ⟨lb, lo, rfl, hlb, hlc⟩ := hrow (by omega)
                          have l0 : w9.cell? ⟨lb, lo + a, none⟩ = some (.int .i64 (v : Int)) := (hlc a (by omega)).trans (by show some (Value.int .i64 ((nget us a : Nat) : Int)) = _; rw [HWIT.out.at_])
                          have HRH := Lib.hid (refHolds_any r (us.map natI) (wit_fit HRD.out HUL.out HWIT.out.low) (.slice (some ⟨vb, vo, none⟩) r.vars.length vc) (.slice na r.nums.length nc) (.slice (some ⟨lb, lo, none⟩) r.vars.length lc) w9 ((HRU2.out.below HB9.out (by have := HBWR.out.size; omega)).mono HB9.out.size) HLV.out (Nat.le_refl _))
                          rw [show holdsD r (us.map natI) = true by rw [HR.out]; exact HWIT.out.holds] at HRH
                          unfold ruleV at HRH
                          clear kr9 hrow hlc
                          go_wp2_with fail
                          refine HRH.out.mono ?_
                          rintro e w11 ⟨rfl, hb11⟩
                          have HB11 := Lib.hid (HB9.out.trans (hb11.mono HB9.out.size))
                          have HB2B := Lib.hid (HB29.out.trans (hb11.mono HB29.out.size))
                          have HLR11 := Lib.hid ((HLR.out.below hb11 (Nat.le_refl _)).mono hb11.size)
                          have kr11 := heap_later KR.out HB11.out zk
                          have r1 : w11.cell? ⟨wo.heap.size, 1, none⟩ = some (.slice (some ⟨vb, vo, none⟩) r.vars.length vc) := by rw [cell_of_row _ _ _ _ _ _ kr11]; rfl
                          have zr11 : wo.heap.size < w11.heap.size := (Array.getElem?_eq_some_iff.1 kr11).1
                          clear hb11 HRH r0 r2 r3 l0 kr11 zr9 HLV HLR HB9 HB29 zxb hlb
                          go_wp2_with fail
                          clear r1 zr11
                          go_loopw [201] (fun kv wr => ∃ k : Nat, k ≤ r.vars.length ∧ kv = .int .i64 k ∧ Below w11.heap.size w11 wr) (fun kv _ => r.vars.length - (intOf kv).toNat)
                          case atStart => exact ⟨0, Nat.zero_le _, rfl, Below.refl _ _⟩
                          case round =>
                            obtain ⟨k, hk, rfl, hb⟩ := hrel
                            by_cases hlk : k < r.vars.length
                            · have HBX := Lib.hid hb
                              have hbR := HB11.out.trans (hb.mono HB11.out.size)
                              have hb2 := HB2B.out.trans (hb.mono HB2B.out.size)
                              obtain ⟨_, a', c', hae, _, _, hrow⟩ := HRU2.out.vars.below hbR (Nat.le_refl _)
                              cases hae
                              obtain ⟨vb2, vo2, hve, hvb2, hvc⟩ := hrow (by omega)
                              cases hve
                              have p0 : wr.cell? ⟨vb, vo + k, none⟩ = some (.int .i64 (iget r.vars k)) := hvc k (by omega)
                              have zvb : vb < wr.heap.size := by have := hbR.size; omega
                              have hyr := (ruleD_parts HRD.out).2.2.1 k hlk
                              obtain ⟨y, hy⟩ : ∃ y : Nat, iget r.vars k = y := ⟨(iget r.vars k).toNat, by omega⟩
                              rw [hy] at p0 hyr
                              have hyn : y < p.doms.length := by omega
                              obtain ⟨_, a', c', hae, _, _, hrow⟩ := HLR11.out.below hb (Nat.le_refl _)
                              cases hae
                              obtain ⟨lb2, lo2, hle, hlb2, hlc⟩ := hrow (by omega)
                              cases hle
                              have l0 : wr.cell? ⟨lb, lo + k, none⟩ = some (.int .i64 (nget us k : Nat)) := hlc k (by omega)
                              have zlb : lb < wr.heap.size := by have := hb.size; omega
                              obtain ⟨_, a', c', hae, _, _, hrow⟩ := HFR.out.below hb2 (Nat.le_refl _)
                              cases hae
                              obtain ⟨xb2, xo2, hxe, hxb2, hxc⟩ := hrow (by omega)
                              cases hxe
                              have g0 : wr.cell? ⟨xb, xo + y, none⟩ = some (.int .u64 (nget X y : Nat)) := hxc y (by omega)
                              have zxb : xb < wr.heap.size := by have := hb2.size; omega
                              have huy : U64 (nget X y) := Nat.lt_trans (HXB.out y) (by decide)
                              have hwl := HWIT.out.left k (by rw [← HR.out]; exact hlk)
                              rw [← HR.out, hy, Int.toNat_natCast, ← HXG.out] at hwl
                              obtain ⟨u, hu⟩ : ∃ u, u = nget us k := ⟨_, rfl⟩
                              rw [← hu] at l0 hwl
                              have has : ∀ W, Calls Tryd.prog 27 #[.int .u64 (nget X y : Nat), .int .i64 u] W fun r w' => r = .returned (.bool true) ∧ w' = W := fun W => by
                                have h := refHas_any (nget X y) (u : Int) W huy
                                rwa [hwl] at h
                              have HAS := Lib.hid has
                              clear hrow hvc hlc hxc hb hbR hb2 hy hyr hu hwl has
                              go_wp2_with fail
                              refine wp_region_qb (by kernel_rfl) (by kernel_rfl) ?_
                              repeat go_big_quiet_step ((with_reducible exact Gives.quiet (Gives.of_same (HAS.out _))))
                              refine wpQuiet_nil ?_
                              intro w13 hb13
                              have HBX2 := Lib.hid (HBX.out.trans (hb13.mono HBX.out.size))
                              clear p0 l0 g0 zvb zlb zxb hb13 HBX HAS
                              go_wp2_with fail
                              go_roundw
                              case rel => exact ⟨k + 1, by omega, by go_num, HBX2.out⟩
                              case measure => simp [intOf]; omega
                            · have HBX := Lib.hid hb
                              clear hb
                              go_wp2
                              go_roundw
                              case rel => exact ⟨v + 1, by omega, by go_num, HB11.out.trans (HBX.out.mono HB11.out.size)⟩
                              case measure => simp [intOf]; omega
                      · go_wp2
                        go_roundw
                        case rel => exact ⟨a + 1, by omega, by go_num, HB.out⟩
                        case measure => simp [intOf]; omega
                  · go_wp2
                    go_roundw
                    case rel => exact ⟨j + 1, by omega, by go_num, HBR.out.trans (HB.out.mono HBR.out.size)⟩
                    case measure => simp [intOf]; omega
              · have HBE := Lib.hid (HB7.out.trans (HB.out.mono HB7.out.size))
                go_wp2_with fail
                refine (works_any _ (HT.out.below HBE.out hw0) (by have := HBE.out.size; omega)).mono ?_
                rintro e1 w9 ⟨rfl, hb9⟩
                have HF := Lib.hid (HBE.out.trans (hb9.mono HBE.out.size))
                clear hb9
                go_wp2
                go_ret
                exact ⟨rfl, HF.out⟩
        case true =>
          have HSI := Lib.hid (sound_in (p := p) HPO.out (vs := vs) ⟨HVL.out, fun j hj => HPK.out j (by rw [HVL.out]; exact hj)⟩ hah)
          have HOR : Hid (Row wr wr.heap.size 1 (.slice oa p.doms.length oc) p.doms.length (fun i => .int .i64 (nget vs i : Nat))) := Lib.hid (by
            have h := HOI.out; unfold Ints at h; rw [List.length_map, HVL.out] at h; exact h.congr fun i _ => by rw [iget_nat])
          have HOR5 := Lib.hid ((HOR.out.below hb5 (Nat.le_refl _)).mono hb5.size)
          clear hah HB HBw KW zW hb5 HOI HOR
          go_wp2_with fail
          go_loopw [120] (fun kv wr => ∃ k : Nat, k ≤ p.doms.length ∧ kv = .int .i64 k ∧ Below w5.heap.size w5 wr) (fun kv _ => p.doms.length - (intOf kv).toNat)
          case atStart => exact ⟨0, Nat.zero_le _, rfl, Below.refl _ _⟩
          case round =>
            obtain ⟨k, hk, rfl, hb⟩ := hrel
            by_cases hlk : k < p.doms.length
            · have HBX := Lib.hid hb
              have hb2 := HB25.out.trans (hb.mono HB25.out.size)
              obtain ⟨_, a', c', hae, _, _, hrow⟩ := HOR5.out.below hb (Nat.le_refl _)
              cases hae
              obtain ⟨lb, lo, rfl, hlb, hlc⟩ := hrow (by omega)
              have l0 : wr.cell? ⟨lb, lo + k, none⟩ = some (.int .i64 (nget vs k : Nat)) := hlc k (by omega)
              have zlb : lb < wr.heap.size := by have := hb.size; omega
              obtain ⟨_, a', c', hae, _, _, hrow⟩ := HFR.out.below hb2 (Nat.le_refl _)
              cases hae
              obtain ⟨xb, xo, rfl, hxb, hxc⟩ := hrow (by omega)
              have g0 : wr.cell? ⟨xb, xo + k, none⟩ = some (.int .u64 (nget X k : Nat)) := hxc k (by omega)
              have zxb : xb < wr.heap.size := by have := hb2.size; omega
              have huy : U64 (nget X k) := Nat.lt_trans (HXB.out k) (by decide)
              have hsi := HSI.out k hlk
              rw [← HXG.out] at hsi
              have hv16 : nget vs k < 16 := bit_lt16 (HXB.out k) hsi
              rw [← hasD_lt hv16] at hsi
              obtain ⟨u, hu⟩ : ∃ u, u = nget vs k := ⟨_, rfl⟩
              rw [← hu] at l0 hsi
              have HWL := Lib.hid hsi
              clear hrow hlc hxc hb hb2 hu hsi hv16
              go_wp2_with fail
              refine (refHas_any (nget X k) (u : Int) wr huy).mono ?_
              rintro e w12 ⟨rfl, hw12⟩
              rw [hw12, HWL.out]
              clear hw12 l0 g0 zlb zxb
              go_wp2_with fail
              go_roundw
              case rel => exact ⟨k + 1, by omega, by go_num, HBX.out⟩
              case measure => simp [intOf]; omega
            · have HBX := Lib.hid (HB25.out.trans (hb.mono HB25.out.size))
              clear hb HB25 HOR5
              have HBw := Lib.hid (HB2.out.trans (HBX.out.mono HB2.out.size))
              have HFX := Lib.hid (HFO.out.below HBX.out (Nat.le_refl _))
              have HEM := Lib.hid (lawEmpty_any X _ wr HFX.out)
              cases hem : X.contains 0
              case true =>
                rw [hem] at HEM
                clear hem
                go_wp2_with fail
                refine HEM.out.mono ?_
                rintro e w6 ⟨rfl, hb6⟩
                have HB6 := Lib.hid (HBw.out.trans (hb6.mono HBw.out.size))
                clear hb6 HEM
                go_wp2_with fail
                refine (works_any _ (HT.out.below HB6.out hw0) (by have := HB6.out.size; omega)).mono ?_
                rintro e1 w9 ⟨rfl, hb9⟩
                have HF := Lib.hid (HB6.out.trans (hb9.mono HB6.out.size))
                clear hb9
                go_wp2
                go_ret
                exact ⟨rfl, HF.out⟩
              case false =>
                have hnv : ¬ Void p (propD p).1 := fun h => by
                  have h2 := (void_iff HPO.out).2 h
                  rw [← HX.out, hem] at h2; cases h2
                have HNV := Lib.hid hnv
                rw [hem] at HEM
                clear hem hnv
                go_wp2_with fail
                refine HEM.out.mono ?_
                rintro e w6 ⟨rfl, hb6⟩
                have HB26 := Lib.hid (HBX.out.trans (hb6.mono HBX.out.size))
                have HB6 := Lib.hid (HB2.out.trans (HB26.out.mono HB2.out.size))
                have K6 := Lib.hid (heap_later K2.out HB26.out z2)
                have z6 : w.heap.size < w6.heap.size := (Array.getElem?_eq_some_iff.1 K6.out).1
                clear hb6 HEM HBw HFX HBX
                have c0 : w6.cell? ⟨w.heap.size, 0, none⟩ = some (.slice da p.doms.length dc) := by rw [cell_of_row _ _ _ _ _ _ K6.out]; rfl
                have c1 : w6.cell? ⟨w.heap.size, 1, none⟩ = some (.slice ra p.rules.length rc) := by rw [cell_of_row _ _ _ _ _ _ K6.out]; rfl
                go_upto_region 39 with fail
                refine abs_wp (fun Z => Z.heap[w6.heap.size]? = some (.cells #[.slice xa p.doms.length xc, .slice ra p.rules.length rc] 25 (0, 0)) ∧ Below w6.heap.size w6 Z) ⟨heap_new0 _ _, Below.new1 _ _⟩ ?_
                clear c0 c1
                rintro W7 ⟨kq, hbq⟩
                have zq : w6.heap.size < W7.heap.size := (Array.getElem?_eq_some_iff.1 kq).1
                have KQ := Lib.hid kq
                have HB27 := Lib.hid (HB26.out.trans (hbq.mono HB26.out.size))
                have HB7 := Lib.hid (HB2.out.trans (HB27.out.mono HB2.out.size))
                have K7 := Lib.hid (heap_later K6.out hbq z6)
                have z27 := HB27.out.size
                clear kq hbq HB26 HB6 K6
                have c0 : W7.cell? ⟨w.heap.size, 0, none⟩ = some (.slice da p.doms.length dc) := by rw [cell_of_row _ _ _ _ _ _ K7.out]; rfl
                have c1 : W7.cell? ⟨w.heap.size, 1, none⟩ = some (.slice ra p.rules.length rc) := by rw [cell_of_row _ _ _ _ _ _ K7.out]; rfl
                go_wp2_with fail
                clear c0 c1
                go_loopw [143] (fun jv wr => ∃ j : Nat, j ≤ p.rules.length ∧ jv = .int .i64 j ∧ Below W7.heap.size W7 wr) (fun jv _ => p.rules.length - (intOf jv).toNat)
                case atStart => exact ⟨0, Nat.zero_le _, rfl, Below.refl _ _⟩
                case round =>
                  obtain ⟨j, hj, rfl, hb⟩ := hrel
                  have HB := Lib.hid hb
                  by_cases hlt : j < p.rules.length
                  · have hbw := HB7.out.trans (hb.mono HB7.out.size)
                    obtain ⟨cR, hcRow, hcR⟩ := HRV.out.below hbw hB
                    obtain ⟨_, a', c', hae, _, _, hrow⟩ := hcRow
                    cases hae
                    obtain ⟨rb, ro, rfl, hrb, hcell⟩ := hrow (by omega)
                    obtain ⟨hc0, hcv, hcn, hc3⟩ := hcR j hlt
                    obtain ⟨va, vc, hc1⟩ := hcv.slice
                    obtain ⟨na, nc, hc2⟩ := hcn.slice
                    have hruat : RuleAt wr B (drget p.rules j) (.slice va (drget p.rules j).vars.length vc) (.slice na (drget p.rules j).nums.length nc) := ⟨by rw [← hc1]; exact hcv, by rw [← hc2]; exact hcn⟩
                    have q0 : wr.cell? ⟨rb, ro + j * 4, none⟩ = some (.int .i64 (drget p.rules j).kind) := by rw [hcell _ (by omega), hc0]
                    have q1 : wr.cell? ⟨rb, ro + j * 4 + 1, none⟩ = some (.slice va (drget p.rules j).vars.length vc) := by rw [← hc1]; exact hcell (j * 4 + 1) (by omega)
                    have q2 : wr.cell? ⟨rb, ro + j * 4 + 2, none⟩ = some (.slice na (drget p.rules j).nums.length nc) := by rw [← hc2]; exact hcell (j * 4 + 2) (by omega)
                    have q3 : wr.cell? ⟨rb, ro + j * 4 + 3, none⟩ = some (.int .i64 (drget p.rules j).n) := by rw [← hc3]; exact hcell (j * 4 + 3) (by omega)
                    have hrd := (probD_parts HPO.out).2.2.2.2 j hlt
                    have zr : rb < wr.heap.size := by have := hbw.size; omega
                    obtain ⟨r, hr⟩ : ∃ r, r = drget p.rules j := ⟨_, rfl⟩
                    rw [← hr] at q0 q1 q2 q3 hruat hrd
                    have HR := Lib.hid hr; have HRU := Lib.hid hruat; have HRD := Lib.hid hrd
                    have hv4 := (ruleD_parts hrd).2.1
                    obtain ⟨wo, rfl⟩ : ∃ wo : World, wo = wr := ⟨_, rfl⟩
                    clear hb hbw hcR hcell hrow hc0 hcv hcn hc3 hc1 hc2 hruat hr hrd
                    go_upto_region 42 with fail
                    refine abs_wp (fun Z => Z.heap[wo.heap.size]? = some (.cells #[.int .i64 r.kind, .slice va r.vars.length vc, .slice na r.nums.length nc, .int .i64 r.n] 35 (0, 0)) ∧ Below wo.heap.size wo Z) ⟨heap_new0 _ _, Below.new1 _ _⟩ ?_
                    clear q0 q1 q2 q3 zr
                    rintro R ⟨kr, hbr⟩
                    have KR := Lib.hid kr
                    have zk : wo.heap.size < R.heap.size := (Array.getElem?_eq_some_iff.1 kr).1
                    have HBR := Lib.hid (HB.out.trans (hbr.mono HB.out.size))
                    have HB2R := Lib.hid (HB27.out.trans (HBR.out.mono HB27.out.size))
                    have HBWR := Lib.hid (HB2.out.trans (HB2R.out.mono HB2.out.size))
                    have KQR := Lib.hid (heap_later KQ.out HBR.out zq)
                    have hzo := HB.out.size
                    have HRU2 := Lib.hid ((HRU.out.below hbr (by have := HB7.out.size; omega)).mono (show B ≤ R.heap.size by have := HBWR.out.size; omega))
                    have r1 : R.cell? ⟨wo.heap.size, 1, none⟩ = some (.slice va r.vars.length vc) := by rw [cell_of_row _ _ _ _ _ _ kr]; rfl
                    clear kr hbr HRU HB
                    go_wp2_with fail
                    clear r1
                    go_loopw [151] (fun av wr => ∃ a : Nat, a ≤ r.vars.length ∧ av = .int .i64 a ∧ Below R.heap.size R wr) (fun av _ => r.vars.length - (intOf av).toNat)
                    case atStart => exact ⟨0, Nat.zero_le _, rfl, Below.refl _ _⟩
                    case round =>
                      obtain ⟨a, ha, rfl, hb⟩ := hrel
                      have HB := Lib.hid hb
                      by_cases hla : a < r.vars.length
                      · obtain ⟨_, a', c', hae, _, _, hrow⟩ := HRU2.out.vars.below hb (Nat.le_refl _)
                        cases hae
                        obtain ⟨vb, vo, rfl, hvb, hvc⟩ := hrow (by omega)
                        have p0 : wr.cell? ⟨vb, vo + a, none⟩ = some (.int .i64 (iget r.vars a)) := hvc a (by omega)
                        have zvb : vb < wr.heap.size := by have := hb.size; omega
                        have hxr := (ruleD_parts HRD.out).2.2.1 a hla
                        obtain ⟨x, hx⟩ : ∃ x : Nat, iget r.vars a = x := ⟨(iget r.vars a).toNat, by omega⟩
                        rw [hx] at p0 hxr
                        have hxn : x < p.doms.length := by omega
                        have HXA := Lib.hid hx
                        clear hrow hvc hb hx hxr
                        go_wp2_with fail
                        clear p0 zvb
                        go_loopw [156] (fun kv wr => ∃ v : Nat, v ≤ 16 ∧ kv = .int .i64 v ∧ Below R.heap.size R wr) (fun kv _ => 16 - (intOf kv).toNat)
                        case atStart => exact ⟨0, by omega, rfl, HB.out⟩
                        case round =>
                          clear HB
                          obtain ⟨v, hv, rfl, hb⟩ := hrel
                          have HB := Lib.hid hb
                          by_cases hlv : v < 16
                          · have hlv' : (v : Int) < 16 := by omega
                            have kq8 := heap_later KQR.out hb (by have := HBR.out.size; omega)
                            have s0 : wr.cell? ⟨w6.heap.size, 0, none⟩ = some (.slice xa p.doms.length xc) := by rw [cell_of_row _ _ _ _ _ _ kq8]; rfl
                            have s1 : wr.cell? ⟨w6.heap.size, 1, none⟩ = some (.slice (some ⟨rb, ro, none⟩) p.rules.length rc) := by rw [cell_of_row _ _ _ _ _ _ kq8]; rfl
                            have zs : w6.heap.size < wr.heap.size := (Array.getElem?_eq_some_iff.1 kq8).1
                            have hbw := HBWR.out.trans (hb.mono HBWR.out.size)
                            have hb2w := HB2R.out.trans (hb.mono HB2R.out.size)
                            have HSUP := Lib.hid (support_any (leftP p) j a v (.slice xa p.doms.length xc) (.slice (some ⟨rb, ro, none⟩) p.rules.length rc) wr (B := wr.heap.size) (by rw [show (leftP p).doms = X from HX.out.symm]; exact (HFO.out.below hb2w (Nat.le_refl _)).mono hb2w.size) ((HRV.out.below hbw hB).mono (by have := hbw.size; omega)) (by have := hbw.size; omega) (Nat.le_refl _) (HT.out.below hbw hw0))
                            have hle := left_err HPO.out HNV.out hlt (a := a) (by rw [← HR.out]; exact hla) v
                            rw [← HR.out, HXA.out, Int.toNat_natCast, ← HXG.out] at hle
                            have HLE := Lib.hid hle
                            have HB2W := Lib.hid hb2w
                            clear kq8 hb hbw hle hb2w
                            go_wp2_with fail
                            refine HSUP.out.mono ?_
                            rintro e w9 ⟨lv, rfl, hlo, hb9⟩
                            rw [HLE.out]
                            have HB9 := Lib.hid (HB.out.trans (hb9.mono HB.out.size))
                            have HB29 := Lib.hid (HB2W.out.trans (hb9.mono HB2W.out.size))
                            have hux : U64 (nget X x) := Nat.lt_trans (HXB.out x) (by decide)
                            obtain ⟨_, a', c', hae, _, _, hrow⟩ := HFR.out.below HB29.out (Nat.le_refl _)
                            cases hae
                            obtain ⟨xb, xo, rfl, hxb, hxc⟩ := hrow (by omega)
                            have g0 : w9.cell? ⟨xb, xo + x, none⟩ = some (.int .u64 (nget X x : Nat)) := hxc x (by omega)
                            have zxb : xb < w9.heap.size := by have := HB29.out.size; omega
                            clear s0 s1 zs HSUP hrow hxc HB2W hb9
                            cases hh : hasD (nget X x) (v : Int)
                            case false =>
                              obtain ⟨la, ln2, lc, rfl⟩ : ∃ a n c, lv = .slice a n c := by obtain ⟨a, c, h⟩ := own_form hlo; exact ⟨a, _, c, h⟩
                              have HH := Lib.hid hh
                              clear hlo hh
                              rw [if_neg (by decide)]
                              go_wp2_with fail
                              refine (refHas_any (nget X x) (v : Int) w9 hux).mono ?_
                              rintro e w10 ⟨rfl, hw10⟩
                              rw [hw10, HH.out]
                              clear hw10 g0
                              go_wp2_with fail
                              go_roundw
                              case rel => exact ⟨v + 1, by omega, by go_num, HB9.out⟩
                              case measure => simp [intOf]; omega
                            case true =>
                              obtain ⟨us, hwit⟩ := left_wit HPO.out HNV.out hlt (a := a) (by rw [← HR.out]; exact hla) (v := v) (by rw [← HR.out, HXA.out, Int.toNat_natCast, ← HXG.out]; exact hh)
                              have hul : us.length = r.vars.length := by rw [hwit.len, ← HR.out]
                              rw [hwit.list, List.length_map, hul] at hlo
                              have hul2 : (us.map natI).length = r.vars.length := by rw [List.length_map, hul]
                              have HLV := Lib.hid (ownsRow_ints hlo (by omega) hul2)
                              obtain ⟨la, lc, rfl⟩ := own_form hlo
                              have HLR : Hid (Row w9 w9.heap.size 1 (.slice la r.vars.length lc) r.vars.length (fun i => .int .i64 (nget us i : Nat))) := Lib.hid (by
                                have h := HLV.out; unfold Ints at h; rw [hul2] at h; exact h.congr fun i _ => by rw [iget_nat])
                              have HH := Lib.hid hh; have HWIT := Lib.hid hwit; have HUL := Lib.hid hul
                              clear hlo hh hwit hul hul2
                              rw [if_pos rfl]
                              go_wp2_with fail
                              refine (refHas_any (nget X x) (v : Int) w9 hux).mono ?_
                              rintro e w10 ⟨rfl, hw10⟩
                              rw [hw10, HH.out]
                              clear hw10 g0
                              have kr9 := heap_later KR.out HB9.out zk
                              have r0 : w9.cell? ⟨wo.heap.size, 0, none⟩ = some (.int .i64 r.kind) := by rw [cell_of_row _ _ _ _ _ _ kr9]; rfl
                              have r1 : w9.cell? ⟨wo.heap.size, 1, none⟩ = some (.slice (some ⟨vb, vo, none⟩) r.vars.length vc) := by rw [cell_of_row _ _ _ _ _ _ kr9]; rfl
                              have r2 : w9.cell? ⟨wo.heap.size, 2, none⟩ = some (.slice na r.nums.length nc) := by rw [cell_of_row _ _ _ _ _ _ kr9]; rfl
                              have r3 : w9.cell? ⟨wo.heap.size, 3, none⟩ = some (.int .i64 r.n) := by rw [cell_of_row _ _ _ _ _ _ kr9]; rfl
                              have zr9 : wo.heap.size < w9.heap.size := (Array.getElem?_eq_some_iff.1 kr9).1
                              obtain ⟨_, a', c', hae, _, _, hrow⟩ := HLR.out
                              cases hae
                              obtain ⟨lb, lo, rfl, hlb, hlc⟩ := hrow (by omega)
                              have l0 : w9.cell? ⟨lb, lo + a, none⟩ = some (.int .i64 (v : Int)) := (hlc a (by omega)).trans (by show some (Value.int .i64 ((nget us a : Nat) : Int)) = _; rw [HWIT.out.at_])
                              have HRH := Lib.hid (refHolds_any r (us.map natI) (wit_fit HRD.out HUL.out HWIT.out.low) (.slice (some ⟨vb, vo, none⟩) r.vars.length vc) (.slice na r.nums.length nc) (.slice (some ⟨lb, lo, none⟩) r.vars.length lc) w9 ((HRU2.out.below HB9.out (by have := HBWR.out.size; omega)).mono HB9.out.size) HLV.out (Nat.le_refl _))
                              rw [show holdsD r (us.map natI) = true by rw [HR.out]; exact HWIT.out.holds] at HRH
                              unfold ruleV at HRH
                              clear kr9 hrow hlc
                              go_wp2_with fail
                              refine HRH.out.mono ?_
                              rintro e w11 ⟨rfl, hb11⟩
                              have HB11 := Lib.hid (HB9.out.trans (hb11.mono HB9.out.size))
                              have HB2B := Lib.hid (HB29.out.trans (hb11.mono HB29.out.size))
                              have HLR11 := Lib.hid ((HLR.out.below hb11 (Nat.le_refl _)).mono hb11.size)
                              have kr11 := heap_later KR.out HB11.out zk
                              have r1 : w11.cell? ⟨wo.heap.size, 1, none⟩ = some (.slice (some ⟨vb, vo, none⟩) r.vars.length vc) := by rw [cell_of_row _ _ _ _ _ _ kr11]; rfl
                              have zr11 : wo.heap.size < w11.heap.size := (Array.getElem?_eq_some_iff.1 kr11).1
                              clear hb11 HRH r0 r2 r3 l0 kr11 zr9 HLV HLR HB9 HB29 zxb hlb
                              go_wp2_with fail
                              clear r1 zr11
                              go_loopw [201] (fun kv wr => ∃ k : Nat, k ≤ r.vars.length ∧ kv = .int .i64 k ∧ Below w11.heap.size w11 wr) (fun kv _ => r.vars.length - (intOf kv).toNat)
                              case atStart => exact ⟨0, Nat.zero_le _, rfl, Below.refl _ _⟩
                              case round =>
                                obtain ⟨k, hk, rfl, hb⟩ := hrel
                                by_cases hlk : k < r.vars.length
                                · have HBX := Lib.hid hb
                                  have hbR := HB11.out.trans (hb.mono HB11.out.size)
                                  have hb2 := HB2B.out.trans (hb.mono HB2B.out.size)
                                  obtain ⟨_, a', c', hae, _, _, hrow⟩ := HRU2.out.vars.below hbR (Nat.le_refl _)
                                  cases hae
                                  obtain ⟨vb2, vo2, hve, hvb2, hvc⟩ := hrow (by omega)
                                  cases hve
                                  have p0 : wr.cell? ⟨vb, vo + k, none⟩ = some (.int .i64 (iget r.vars k)) := hvc k (by omega)
                                  have zvb : vb < wr.heap.size := by have := hbR.size; omega
                                  have hyr := (ruleD_parts HRD.out).2.2.1 k hlk
                                  obtain ⟨y, hy⟩ : ∃ y : Nat, iget r.vars k = y := ⟨(iget r.vars k).toNat, by omega⟩
                                  rw [hy] at p0 hyr
                                  have hyn : y < p.doms.length := by omega
                                  obtain ⟨_, a', c', hae, _, _, hrow⟩ := HLR11.out.below hb (Nat.le_refl _)
                                  cases hae
                                  obtain ⟨lb2, lo2, hle, hlb2, hlc⟩ := hrow (by omega)
                                  cases hle
                                  have l0 : wr.cell? ⟨lb, lo + k, none⟩ = some (.int .i64 (nget us k : Nat)) := hlc k (by omega)
                                  have zlb : lb < wr.heap.size := by have := hb.size; omega
                                  obtain ⟨_, a', c', hae, _, _, hrow⟩ := HFR.out.below hb2 (Nat.le_refl _)
                                  cases hae
                                  obtain ⟨xb2, xo2, hxe, hxb2, hxc⟩ := hrow (by omega)
                                  cases hxe
                                  have g0 : wr.cell? ⟨xb, xo + y, none⟩ = some (.int .u64 (nget X y : Nat)) := hxc y (by omega)
                                  have zxb : xb < wr.heap.size := by have := hb2.size; omega
                                  have huy : U64 (nget X y) := Nat.lt_trans (HXB.out y) (by decide)
                                  have hwl := HWIT.out.left k (by rw [← HR.out]; exact hlk)
                                  rw [← HR.out, hy, Int.toNat_natCast, ← HXG.out] at hwl
                                  obtain ⟨u, hu⟩ : ∃ u, u = nget us k := ⟨_, rfl⟩
                                  rw [← hu] at l0 hwl
                                  have has : ∀ W, Calls Tryd.prog 27 #[.int .u64 (nget X y : Nat), .int .i64 u] W fun r w' => r = .returned (.bool true) ∧ w' = W := fun W => by
                                    have h := refHas_any (nget X y) (u : Int) W huy
                                    rwa [hwl] at h
                                  have HAS := Lib.hid has
                                  clear hrow hvc hlc hxc hb hbR hb2 hy hyr hu hwl has
                                  go_wp2_with fail
                                  refine wp_region_qb (by kernel_rfl) (by kernel_rfl) ?_
                                  repeat go_big_quiet_step ((with_reducible exact Gives.quiet (Gives.of_same (HAS.out _))))
                                  refine wpQuiet_nil ?_
                                  intro w13 hb13
                                  have HBX2 := Lib.hid (HBX.out.trans (hb13.mono HBX.out.size))
                                  clear p0 l0 g0 zvb zlb zxb hb13 HBX HAS
                                  go_wp2_with fail
                                  go_roundw
                                  case rel => exact ⟨k + 1, by omega, by go_num, HBX2.out⟩
                                  case measure => simp [intOf]; omega
                                · have HBX := Lib.hid hb
                                  clear hb
                                  go_wp2
                                  go_roundw
                                  case rel => exact ⟨v + 1, by omega, by go_num, HB11.out.trans (HBX.out.mono HB11.out.size)⟩
                                  case measure => simp [intOf]; omega
                          · go_wp2
                            go_roundw
                            case rel => exact ⟨a + 1, by omega, by go_num, HB.out⟩
                            case measure => simp [intOf]; omega
                      · go_wp2
                        go_roundw
                        case rel => exact ⟨j + 1, by omega, by go_num, HBR.out.trans (HB.out.mono HBR.out.size)⟩
                        case measure => simp [intOf]; omega
                  · have HBE := Lib.hid (HB7.out.trans (HB.out.mono HB7.out.size))
                    go_wp2_with fail
                    refine (works_any _ (HT.out.below HBE.out hw0) (by have := HBE.out.size; omega)).mono ?_
                    rintro e1 w9 ⟨rfl, hb9⟩
                    have HF := Lib.hid (HBE.out.trans (hb9.mono HBE.out.size))
                    clear hb9
                    go_wp2
                    go_ret
                    exact ⟨rfl, HF.out⟩
end Go.Proofs.YtdmmegmkdhinjaaDoor
