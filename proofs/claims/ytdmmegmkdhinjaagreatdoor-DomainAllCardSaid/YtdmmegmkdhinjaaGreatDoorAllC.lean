/- The law's own search of DomainAll: all ways, until there are too many solutions. -/
import Derived.Test.YtdmmegmkdhinjaaGreatDoorAll1
namespace Go.Proofs.YtdmmegmkdhinjaaGreatDoor
open Go Go.RowKit
attribute [local go_sem] cell_grow u64_sAnd u64_sOr u64_sDiff sDiff_all zeqI zneI sAnd_bit_zero sAnd_bit_zeroN sAnd_bit_nonzero

/-- The ways that follow some first values. -/
def waysA (vs ds : List Nat) : List (List Nat) := (waysL ds).map (vs ++ ·)
/-- The ways that follow some first values, from one value of the next variable on. -/
def waysR (vs : List Nat) (d : Nat) (ds : List Nat) (v : Nat) : List (List Nat) := ((List.range' v (16 - v)).filter d.testBit).flatMap fun u => waysA (vs ++ [u]) ds
theorem waysA_nil (vs : List Nat) : waysA vs [] = [vs] := by unfold waysA waysL; simp
theorem waysR_zero (vs : List Nat) (d : Nat) (ds : List Nat) : waysA vs (d :: ds) = waysR vs d ds 0 := by
  unfold waysA waysR
  conv => lhs; unfold waysL
  unfold vals16 waysA
  rw [List.map_flatMap, List.range_eq_range']
  congr 1
  funext u
  rw [List.map_map]
  congr 1
  funext x
  simp
theorem waysR_step (vs : List Nat) (d : Nat) (ds : List Nat) {v : Nat} (h : v < 16) : waysR vs d ds v = (if d.testBit v then waysA (vs ++ [v]) ds else []) ++ waysR vs d ds (v + 1) := by
  unfold waysR
  rw [show 16 - v = (16 - (v + 1)) + 1 by omega, List.range'_succ, List.filter_cons]
  split
  · rw [List.flatMap_cons]
  · rw [List.nil_append]
theorem waysR_end (vs : List Nat) (d : Nat) (ds : List Nat) : waysR vs d ds 16 = [] := rfl
theorem foldZ_few (p : Dp) : ∀ (xs : List (List Nat)) (o : List (List Int)), o.length ≤ 200 → (foldZ p xs o).1 = true → (foldZ p xs o).2.length ≤ 200
  | [], o, h, _ => h
  | l :: ls, o, h, h1 => by
    unfold foldZ at h1 ⊢
    by_cases hc : (stZ p o l).length ≤ 200
    · rw [if_pos hc] at h1 ⊢
      exact foldZ_few p ls _ hc h1
    · rw [if_neg hc] at h1; cases h1
theorem foldZ_one (p : Dp) (l : List Nat) (o : List (List Int)) : foldZ p [l] o = (decide (((stZ p o l).length : Int) ≤ 200), stZ p o l) := by
  unfold foldZ
  by_cases hc : (stZ p o l).length ≤ 200
  · rw [if_pos hc, decide_eq_true (by omega)]; rfl
  · rw [if_neg hc, decide_eq_false (by omega)]
set_option maxRecDepth 100000 in
set_option maxHeartbeats 4000000 in
theorem chosen_st (p : Dp) (hpo : probD p = true) (dv rv : Value) (qp qo B base : Nat) (hBo : B ≤ qo) (hBb : B ≤ base) : ∀ (ds vs : List Nat) (lv : Value) (ss : List (List Int)) (w : World),
    ds = p.doms.drop vs.length → vs.length ≤ p.doms.length → (∀ j, j < vs.length → (nget p.doms j).testBit (nget vs j) = true) → ss.length ≤ 200 → AllAt p dv rv qp B base w → w.ownsRow 0 3 1 lv vs.length (intsV (vs.map natI)) → OutZ w qo base ss →
    Calls Tryz.prog 29 #[dv, lv, .func (.func 30) #[] #[.pointer (some ⟨qp, 0, none⟩), .pointer (some ⟨qo, 0, none⟩)]] w fun e w' =>
      e = .returned (.bool (foldZ p (waysA vs ds) ss).1) ∧ OutZ w' qo base (foldZ p (waysA vs ds) ss).2 ∧ KeptT 39 (One qo) base w w' := by
  intro ds
  induction ds with
  | nil =>
    intro vs lv ss w hds hvl hp hss hw hlv hout
    have hl : vs.length = p.doms.length := by
      have := congrArg List.length hds
      simp at this; omega
    have hf := all1_any p hpo dv rv qp qo B base hBb vs ⟨hl, fun j hj => hp j (by omega)⟩ ss hss lv w hw hlv hout
    have HF := Lib.hid hf
    rw [waysA_nil, foldZ_one]
    obtain ⟨da, dc, rfl⟩ := hw.doms.slice
    obtain ⟨la, lc, rfl⟩ := own_form hlv
    rw [hl] at HF ⊢
    generalize decide (((stZ p ss vs).length : Int) ≤ 200) = r at HF ⊢
    clear hf hds hvl hp hss hw hlv hout hl
    go_enter Tryz.func29, Tryz.ntmps29
    go_wp2_with fail
    refine HF.out.mono ?_
    rintro e w' ⟨rfl, ho, hk⟩
    have HO := Lib.hid ho; have HK := Lib.hid hk
    clear ho hk HF
    go_wp2
    go_ret
    exact ⟨rfl, HO.out, HK.out⟩
  | cons d ds ih =>
    intro vs lv ss w hds hvl hp hss hw hlv hout
    have HIH := Lib.hid ih
    clear ih
    have hlt : vs.length < p.doms.length := by
      have := congrArg List.length hds
      simp at this; omega
    have hget : nget p.doms vs.length = d ∧ ds = p.doms.drop (vs.length + 1) := by
      rw [List.drop_eq_getElem_cons hlt] at hds
      injection hds with h1 h2
      exact ⟨by unfold nget; rw [List.getElem?_eq_getElem hlt, h1]; rfl, h2⟩
    have hn8 := (probD_parts hpo).2.1
    have hd16 : d < 65536 := by rw [← hget.1]; exact (probD_parts hpo).2.2.2.1 _
    have hux : U64 d := Nat.lt_trans hd16 (by decide)
    obtain ⟨ov, hko, hso⟩ := hout
    obtain ⟨da, dc, rfl⟩ := hw.doms.slice
    obtain ⟨la, lc, rfl⟩ := own_form hlv
    have hlc : vs.length ≤ lc := by
      rcases hlv.2 with ⟨h1, h2⟩ | ⟨g, cap, cur, h1, _, _, h2, _⟩
      · omega
      · cases h1; exact h2
    have hne : ¬ (vs.length : Int) = (p.doms.length : Int) := by omega
    have hbe : ((vs.length : Int) == (p.doms.length : Int)) = false := by simp; omega
    have hbn : (vs.length == p.doms.length) = false := by simp; omega
    have hnn : ¬ vs.length = p.doms.length := by omega
    have HW := Lib.hid hw; have HLV := Lib.hid hlv; have HKO := Lib.hid hko; have HSO := Lib.hid hso; have HP := Lib.hid hp; have HDR := Lib.hid hget.2; have HGET := Lib.hid hget.1
    clear hds hp hw hlv hko hso hget
    rw [waysR_zero]
    obtain ⟨Q, hQ⟩ : ∃ Q, Q = foldZ p (waysR vs d ds 0) ss := ⟨_, rfl⟩
    have HQ0 := Lib.hid hQ
    rw [← hQ]
    clear hQ
    go_enter Tryz.func29, Tryz.ntmps29
    go_wp2_with fail
    clear hne hbe hbn hnn
    go_loopw [16] (fun kv wr => ∃ (v : Nat) (ss' : List (List Int)), v ≤ 16 ∧ kv = .int .i64 v ∧ ss'.length ≤ 200 ∧ Q = foldZ p (waysR vs d ds v) ss' ∧ AllAt p (.slice da p.doms.length dc) rv qp B base wr ∧ wr.ownsRow 0 3 1 (.slice la vs.length lc) vs.length (intsV (vs.map natI)) ∧ OutZ wr qo base ss' ∧ KeptT 39 (One qo) base w wr) (fun kv _ => 16 - (intOf kv).toNat)
    case atStart => exact ⟨0, ss, by omega, rfl, hss, HQ0.out, HW.out, HLV.out, ⟨ov, HKO.out, HSO.out⟩, KeptT.refl _⟩
    case round =>
      clear HW HLV HKO HSO HQ0
      obtain ⟨v, ss', hv, rfl, hss', hq, hwr, hlr, hor, hkr⟩ := hrel
      have HWR := Lib.hid hwr; have HLR := Lib.hid hlr; have HOR := Lib.hid hor; have HKR := Lib.hid hkr
      by_cases hv16 : v < 16
      · have hlv' : (v : Int) < 16 := by omega
        rw [waysR_step vs d ds hv16] at hq
        have HQ := Lib.hid hq
        obtain ⟨_, a', c', hae, _, _, hrow⟩ := hwr.doms
        cases hae
        obtain ⟨xb, xo, rfl, hxb, hxc⟩ := hrow (by omega)
        have g0 : wr.cell? ⟨xb, xo + vs.length, none⟩ = some (.int .u64 (d : Nat)) := by rw [← HGET.out]; exact hxc vs.length (by omega)
        have zxb : xb < wr.heap.size := by have := hwr.base; omega
        clear hrow hxc hwr hlr hor hkr hq
        go_wp2_with fail
        refine (refHas_any d (v : Int) wr hux).mono ?_
        rintro e w10 ⟨rfl, hw10⟩
        rw [hw10, hasD_ltN hv16]
        clear hw10 g0 zxb
        cases hbit : d.testBit v
        case false =>
          have hq2 := HQ.out
          rw [hbit] at hq2
          have HQ2 := Lib.hid hq2
          clear hq2 HQ hbit
          go_wp2_with fail
          go_roundw
          case rel => exact ⟨v + 1, ss', by omega, by go_num, hss', by simpa using HQ2.out, HWR.out, HLR.out, HOR.out, HKR.out⟩
          case measure => simp [intOf]; omega
        case true =>
          have hq2 := HQ.out
          rw [hbit, if_pos rfl, foldZ_append] at hq2
          have hml : (vs.map natI).length = vs.length := List.length_map _
          have hHv := ownsRow_ints HLR.out (by omega) hml
          have hnw := Below.new1 wr (.cells #[.int .i64 v] 3)
          have HNW := Lib.hid hnw
          obtain ⟨v', w3, hrun, hown3, hgrow3⟩ := run_append_new (wr.alloc (.cells #[.int .i64 v] 3)) la vs.length wr.heap.size lc wr.heap.size v (vs.map natI) hml (by omega) (hHv.below hnw (Nat.le_refl _)) (heap_new0 _ _)
          have HRUN := Lib.hid hrun
          have hb3 : Below wr.heap.size wr w3 := hnw.grown hgrow3 (by simp) (fun q hq => by cases hq)
          have hmap : vs.map natI ++ [(v : Int)] = (vs ++ [v]).map natI := by rw [List.map_append]; rfl
          rw [hmap] at hown3
          have hl1 : (vs ++ [v]).length = vs.length + 1 := by rw [List.length_append]; rfl
          have hown3' : w3.ownsRow 0 3 1 v' (vs ++ [v]).length (intsV ((vs ++ [v]).map natI)) := by rw [hl1]; exact own_mono hown3 (Nat.zero_le _)
          have hbit2 : ∀ j, j < (vs ++ [v]).length → (nget p.doms j).testBit (nget (vs ++ [v]) j) = true := fun j hj => by
            rw [hl1] at hj
            by_cases hjl : j < vs.length
            · have e : nget (vs ++ [v]) j = nget vs j := by unfold nget; rw [List.getElem?_append_left hjl]
              rw [e]; exact HP.out j hjl
            · have hje : j = vs.length := by omega
              subst hje
              have e : nget (vs ++ [v]) vs.length = v := by unfold nget; rw [List.getElem?_append_right (Nat.le_refl _), Nat.sub_self]; rfl
              rw [e, HGET.out]; exact hbit
          have hc3 := HIH.out (vs ++ [v]) v' ss' w3 (by rw [hl1]; exact HDR.out) (by rw [hl1]; omega) hbit2 hss' (HWR.out.below hBb hb3) hown3' (HOR.out.below hb3)
          obtain ⟨q, hqq⟩ : ∃ q, q = foldZ p (waysA (vs ++ [v]) ds) ss' := ⟨_, rfl⟩
          have hfew := foldZ_few p (waysA (vs ++ [v]) ds) ss' hss'
          rw [← hqq] at hc3 hq2 hfew
          have hall : ∀ X3, KeptT 39 (One qo) base w3 X3 → AllAt p (.slice (some ⟨xb, xo, none⟩) p.doms.length dc) rv qp B base X3 ∧ X3.ownsRow 0 3 1 (.slice la vs.length lc) vs.length (intsV (vs.map natI)) ∧ KeptT 39 (One qo) base w X3 := fun X3 hk3 => by
            obtain ⟨ov2, hk2, _⟩ := HOR.out.below hb3
            exact ⟨(HWR.out.below hBb hb3).kept hk2 hBo hBb hk3, own_keptI (own_ck HLR.out (CK.below hb3)) hk2 hk3, (HKR.out.below hb3).trans hk3⟩
          have HC3 := Lib.hid hc3; have HALL := Lib.hid hall; have HQ2 := Lib.hid hq2; have HFEW := Lib.hid hfew
          clear hHv hrun hgrow3 hb3 hmap hown3 hown3' hl1 hbit2 hc3 hbit hnw hq2 hall hqq hfew HQ HNW
          go_wp2_with (at_builtin; refine wpList_runW (by first | rfl | simp [Region.wanted, yielded]) _ _ _ rfl _ _ rfl rfl _ _ HRUN.out ?_)
          cases hq1 : q.1
          case true =>
            have hq3 := HQ2.out
            rw [hq1, if_pos rfl] at hq3
            have HQ3 := Lib.hid hq3; have HF2 := Lib.hid (HFEW.out hq1)
            rw [hq1] at HC3
            clear hq3 hq1 HQ2 HFEW
            refine HC3.out.mono ?_
            rintro e w4 ⟨rfl, ho4, hk4⟩
            obtain ⟨h1, h2, h3⟩ := HALL.out w4 hk4
            have H1 := Lib.hid h1; have H2 := Lib.hid h2; have H3 := Lib.hid h3; have HO4 := Lib.hid ho4
            clear h1 h2 h3 ho4 hk4 HALL HC3 HRUN
            go_wp2_with fail
            go_roundw
            case rel => exact ⟨v + 1, q.2, by omega, by go_num, HF2.out, HQ3.out, H1.out, H2.out, HO4.out, H3.out⟩
            case measure => simp [intOf]; omega
          case false =>
            have hq3 := HQ2.out
            rw [hq1] at hq3
            have HQ3 : Hid (Q = q) := Lib.hid (by simpa using hq3)
            have HQ1 := Lib.hid hq1
            rw [hq1] at HC3
            clear hq3 hq1 HQ2 HFEW
            refine HC3.out.mono ?_
            rintro e w4 ⟨rfl, ho4, hk4⟩
            obtain ⟨h1, h2, h3⟩ := HALL.out w4 hk4
            have H3 := Lib.hid h3; have HO4 := Lib.hid ho4
            clear h1 h2 h3 ho4 hk4 HALL HC3 HRUN
            go_wp2_with fail
            go_ret
            rw [HQ3.out, HQ1.out]
            exact ⟨rfl, HO4.out, H3.out⟩
      · have hv2 : v = 16 := by omega
        subst hv2
        rw [waysR_end] at hq
        have HQ := Lib.hid hq
        clear hwr hlr hor hkr hq
        go_wp2
        go_ret
        rw [HQ.out]
        exact ⟨rfl, HOR.out, HKR.out⟩
end Go.Proofs.YtdmmegmkdhinjaaGreatDoor
