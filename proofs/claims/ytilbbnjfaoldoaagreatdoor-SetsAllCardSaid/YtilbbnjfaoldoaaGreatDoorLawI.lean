/- The law SetsAll, walked. -/
import Derived.Test.YtilbbnjfaoldoaaGreatDoorPlainQ
import Derived.Test.YtilbbnjfaoldoaaGreatDoorCloneS
import Derived.Test.YtilbbnjfaoldoaaGreatDoorChosen
import Derived.Test.YtilbbnjfaoldoaaGreatDoorLawF
namespace Go.Proofs.YtilbbnjfaoldoaaGreatDoor
open Go Go.RowKit
attribute [local go_sem] cell_grow u64_sAnd u64_sOr u64_sDiff sDiff_all zeqI zneI sAnd_bit_zero sAnd_bit_zeroN sAnd_bit_nonzero rowOf_grow rowOk_grow rowOf_alloc rowOk_alloc

theorem eraseI_neg {α : Type} (l : List α) : eraseI l (-1) = l := by unfold eraseI; rw [if_pos (by decide)]
theorem eraseI_nat {α : Type} (l : List α) (i : Nat) : eraseI l (i : Int) = l.eraseIdx i := by unfold eraseI; rw [if_neg (by omega), Int.toNat_natCast]
set_option maxRecDepth 100000 in
set_option maxHeartbeats 8000000 in
theorem setsAll_any (p : Prob) (by_ : Nat) (hby : by_ < 256) (bv rv : Value) (w : World) {B : Nat} (hbv : Bnds w B bv p.bounds) (hrv : Rls w B rv p.rules) (hB0 : 0 < B) (hB : B ≤ w.heap.size) (hub : U64s p.bounds) (hT : Tab w) :
    Gives Tryz.prog 3 #[.agg #[bv, rv], .int .u8 by_] w (.bool true) := by
  unfold Gives
  have HBV := Lib.hid hbv; have HRV := Lib.hid hrv; have HT := Lib.hid hT; have HUB := Lib.hid hub
  have hw0 : 0 < w.heap.size := by omega
  obtain ⟨ba, bc, rfl⟩ := hbv.slice
  obtain ⟨ra, rc, rfl⟩ := hrv.slice
  clear hbv hrv hT hub
  have K0 := Lib.hid (heap_new0 w (.cells #[.slice ba p.bounds.length bc, .slice ra p.rules.length rc] 25)); have HB0 := Lib.hid (Below.new1 w (.cells #[.slice ba p.bounds.length bc, .slice ra p.rules.length rc] 25))
  go_enter Tryz.func3, Tryz.ntmps3
  go_wp2_with fail
  refine (fine_any p _ _ _ (HBV.out.below HB0.out hB) (HRV.out.below HB0.out hB) (by simp; omega) HUB.out).mono ?_
  rintro e w1 ⟨rfl, hb1⟩
  have HB1 := Lib.hid (HB0.out.trans (hb1.mono (by simp))); have K1 := Lib.hid (heap_later K0.out hb1 (by simp))
  clear hb1 K0 HB0
  have z1 : w.heap.size < w1.heap.size := (Array.getElem?_eq_some_iff.1 K1.out).1
  cases hfi : smallOk p && probOk p
  case false =>
    clear hfi
    go_wp2_with fail
    refine (works_any _ (HT.out.below HB1.out hw0) (by have := HB1.out.size; omega)).mono ?_
    rintro e1 w9 ⟨rfl, hb9⟩
    have HF := Lib.hid (HB1.out.trans (hb9.mono HB1.out.size))
    clear hb9
    go_wp2
    go_ret
    exact ⟨rfl, HF.out⟩
  case true =>
    have hpo : probOk p = true := by rw [Bool.and_eq_true] at hfi; exact hfi.2
    have HPO := Lib.hid hpo
    have hn8 := (probOk_fit hpo).2.1
    have hr12 := (probOk_fit hpo).2.2.1
    have hb9 : p.bounds.length ≤ 9 := by omega
    clear hfi hpo
    have c0 : w1.cell? ⟨w.heap.size, 0, none⟩ = some (.slice ba p.bounds.length bc) := by rw [cell_of_row _ _ _ _ _ _ K1.out]; rfl
    have c1 : w1.cell? ⟨w.heap.size, 1, none⟩ = some (.slice ra p.rules.length rc) := by rw [cell_of_row _ _ _ _ _ _ K1.out]; rfl
    go_wp2_with fail
    refine (open_any p _ _ w1 (HBV.out.below HB1.out hB) (by omega) HUB.out hb9).mono ?_
    rintro e w2 ⟨rfl, hb2⟩
    have HB2 := Lib.hid (HB1.out.trans (hb2.mono HB1.out.size)); have K2 := Lib.hid (heap_later K1.out hb2 z1)
    clear hb2 c0 c1
    have z2 : w.heap.size < w2.heap.size := (Array.getElem?_eq_some_iff.1 K2.out).1
    obtain ⟨on, hon⟩ : ∃ on, on = opnC p.bounds p.bounds.length := ⟨_, rfl⟩
    rw [← hon]
    have HON := Lib.hid hon
    clear hon
    by_cases h9 : (9 : Int) < ((on : Nat) : Int)
    · go_wp2_with fail
      refine (works_any _ (HT.out.below HB2.out hw0) (by have := HB2.out.size; omega)).mono ?_
      rintro e1 w9 ⟨rfl, hb9⟩
      have HF := Lib.hid (HB2.out.trans (hb9.mono HB2.out.size))
      clear hb9
      go_wp2
      go_ret
      exact ⟨rfl, HF.out⟩
    · have hf := found_any p HPO.out 100 (by decide) (Nat.le_refl _) _ _ w2 (HBV.out.below HB2.out hB) (HRV.out.below HB2.out hB) (by omega)
      rw [show ((100 : Nat) : Int) = 100 from rfl] at hf
      obtain ⟨fs, hfs⟩ : ∃ fs, fs = foundR p 100 := ⟨_, rfl⟩
      rw [← hfs] at hf
      have HF := Lib.hid hf; have HFS := Lib.hid hfs
      clear hf hfs
      have c0 : w2.cell? ⟨w.heap.size, 0, none⟩ = some (.slice ba p.bounds.length bc) := by rw [cell_of_row _ _ _ _ _ _ K2.out]; rfl
      have c1 : w2.cell? ⟨w.heap.size, 1, none⟩ = some (.slice ra p.rules.length rc) := by rw [cell_of_row _ _ _ _ _ _ K2.out]; rfl
      go_wp2_with fail
      refine HF.out.mono ?_
      rintro e w3 ⟨fv, rfl, hso, hb3⟩
      obtain ⟨fa, fc, rfl⟩ := sown_slice hso
      have HB3 := Lib.hid (HB2.out.trans (hb3.mono HB2.out.size)); have K3 := Lib.hid (heap_later K2.out hb3 z2); have HSF := Lib.hid hso
      have z3 : w.heap.size < w3.heap.size := (Array.getElem?_eq_some_iff.1 K3.out).1
      have hs23 := hb3.size
      clear hb3 c0 c1 hso HF
      by_cases h100 : (100 : Int) ≤ ((fs.length : Nat) : Int)
      · go_wp2_with fail
        refine (works_any _ (HT.out.below HB3.out hw0) (by have := HB3.out.size; omega)).mono ?_
        rintro e1 w9 ⟨rfl, hb9⟩
        have HF := Lib.hid (HB3.out.trans (hb9.mono HB3.out.size))
        clear hb9
        go_wp2
        go_ret
        exact ⟨rfl, HF.out⟩
      · have hyes := solve_yes p 100 _ _ w3 (HBV.out.below HB3.out hB) (HRV.out.below HB3.out hB) hB0 (by omega) HUB.out (HT.out.below HB3.out hw0) HPO.out rfl
        have HYES := Lib.hid hyes
        clear hyes
        have c0 : w3.cell? ⟨w.heap.size, 0, none⟩ = some (.slice ba p.bounds.length bc) := by rw [cell_of_row _ _ _ _ _ _ K3.out]; rfl
        have c1 : w3.cell? ⟨w.heap.size, 1, none⟩ = some (.slice ra p.rules.length rc) := by rw [cell_of_row _ _ _ _ _ _ K3.out]; rfl
        go_wp2_with fail
        refine HYES.out.mono ?_
        rintro e w4 ⟨hsr, hb4⟩
        have HB34 := Lib.hid hb4
        have HB4 := Lib.hid (HB3.out.trans (hb4.mono HB3.out.size)); have K4 := Lib.hid (heap_later K3.out hb4 z3)
        have z4 : w.heap.size < w4.heap.size := (Array.getElem?_eq_some_iff.1 K4.out).1
        have hs34 := hb4.size
        clear hb4 c0 c1 HYES
        rcases hsr with ⟨ho, rfl⟩ | ⟨ho, sv, rfl, hso⟩
        · have h6 : (6 : Int) < ((on : Nat) : Int) := by
            have := open_whole HPO.out ho
            rw [← HON.out] at this
            omega
          clear ho
          have c0 : w4.cell? ⟨w.heap.size, 0, none⟩ = some (.slice ba p.bounds.length bc) := by rw [cell_of_row _ _ _ _ _ _ K4.out]; rfl
          have c1 : w4.cell? ⟨w.heap.size, 1, none⟩ = some (.slice ra p.rules.length rc) := by rw [cell_of_row _ _ _ _ _ _ K4.out]; rfl
          go_wp2_with fail
          refine (open_any p _ _ w4 (HBV.out.below HB4.out hB) (by have := HB4.out.size; omega) HUB.out hb9).mono ?_
          rintro e w5 ⟨rfl, hbo⟩
          have HB5 := Lib.hid (HB4.out.trans (hbo.mono HB4.out.size))
          rw [← HON.out]
          clear hbo c0 c1
          go_wp2_with fail
          refine (works_any _ (HT.out.below HB5.out hw0) (by have := HB5.out.size; omega)).mono ?_
          rintro e1 w9 ⟨rfl, hb9⟩
          have HF := Lib.hid (HB5.out.trans (hb9.mono HB5.out.size))
          clear hb9
          go_wp2
          go_ret
          exact ⟨rfl, HF.out⟩
        · have hall := all_sols HPO.out (by rw [← HFS.out]; omega) ho
          have hnod := search_nodes HPO.out 100
          have hcore := core_cases HPO.out ho
          have hfewk := fun k h0 hk => few_sols (k := k) HPO.out ho h0 hk
          rw [← HFS.out] at hall
          obtain ⟨L, hL⟩ : ∃ L, L = solsP p := ⟨_, rfl⟩
          obtain ⟨nn, hnn⟩ : ∃ nn, nn = (searchR p 100).nodes := ⟨_, rfl⟩
          rw [← hL] at hall hcore
          rw [← hnn] at hnod hfewk ⊢
          rw [hall.1] at hso
          have hrow : ∀ l ∈ L, l.length = p.bounds.length := fun l hl => by rw [hL] at hl; exact ((solsP_mem HPO.out l).1 hl).len
          have hrow2 : ∀ i, i < L.length → (sget L i).length ≤ 1000 := fun i hi => by rw [hrow _ (sget_mem hi)]; omega
          obtain ⟨sa, sc, rfl⟩ := sown_slice hso
          have hfl : fs.length = L.length := by rw [hall.2.1, sortL_length]
          have hl100 : L.length < 100 := hall.2.2.1
          have hscl : L.length ≤ sc := by obtain ⟨cs, hc, _⟩ := hso; exact own_cap hc
          have hn1 : ¬ ((nn : Nat) : Int) < 1 := by omega
          have hn2 : ¬ (200 : Int) < ((nn : Nat) : Int) := by omega
          have HSO := Lib.hid hso; have HALL := Lib.hid hall; have HCORE := Lib.hid hcore; have HFEWK := Lib.hid hfewk; have HLP := Lib.hid hL; have HROW := Lib.hid hrow; have HROW2 := Lib.hid hrow2; have HFL := Lib.hid hfl; have HNN := Lib.hid hnn
          clear hso hall hnod hcore hfewk ho hL hrow hrow2 hnn
          rw [HFL.out] at h100 ⊢
          clear hfl
          have hbne : (((L.length : Nat) : Int) != ((L.length : Nat) : Int)) = false := by simp
          have hcl := clone_ss L (.slice sa L.length sc) w4 HSO.out (by omega) (by omega)
          have HCL := Lib.hid hcl
          clear hcl
          go_wp2_with fail
          refine HCL.out.mono ?_
          rintro e w5 ⟨cv, rfl, hcs, hcb, hb5⟩
          obtain ⟨ca, cc, rfl⟩ := sown_slice hcs
          have HCS := Lib.hid hcs; have HCB := Lib.hid hcb; have HB45 := Lib.hid hb5
          clear hcs hcb hb5 HCL
          go_wp2_with fail
          refine (sortFunc_any L w5 w3.heap.size w4.heap.size _ HCS.out HCB.out HALL.out.2.2.2 (by omega) HROW2.out).mono ?_
          rintro e w6 ⟨rfl, hsr, hk6⟩
          have hb46 := HB45.out.trans (hk6.toBelow (Nat.le_refl _) HB45.out.size (fun q hq h => h))
          have HSR := Lib.hid hsr; have HB46 := Lib.hid hb46; have HB6 := Lib.hid (HB4.out.trans (hb46.mono HB4.out.size)); have K6 := Lib.hid (heap_later K4.out hb46 z4)
          have z6 : w.heap.size < w6.heap.size := (Array.getElem?_eq_some_iff.1 K6.out).1
          have hs46 := hb46.size
          clear hsr hk6 hb46 HCS HCB HB45
          have hsl := sortL_length L
          have hu1 : Uss w6 w6.heap.size (.slice ca L.length cc) (sortL L) := HSR.out.uss (by rw [hsl]; omega) (fun i hi => by rw [HROW.out _ (sortL_mem.1 (sget_mem hi))]; omega)
          have hu2 : Uss w6 w6.heap.size (.slice fa L.length fc) fs := by
            have h3 := (HSF.out.ck (CK.below (HB34.out.trans (HB46.out.mono HB34.out.size)))).uss (by rw [HFL.out]; omega) (fun i hi => by rw [HROW.out _ (sortL_mem.1 (by rw [← HALL.out.2.1]; exact sget_mem hi))]; omega)
            rw [HFL.out] at h3
            exact h3
          have hss := sameSets_any (sortL L) fs _ _ w6 hu1 hu2 (Nat.le_refl _)
          rw [show sameS (sortL L) fs = true by unfold sameS; rw [HALL.out.2.1]; simp] at hss
          have HSS := Lib.hid hss
          clear hu1 hu2 hss hsl
          go_wp2_with fail
          refine HSS.out.mono ?_
          rintro e w7 ⟨rfl, hb7⟩
          have HB7 := Lib.hid (HB6.out.trans (hb7.mono HB6.out.size)); have K7 := Lib.hid (heap_later K6.out hb7 z6); have HB47 := Lib.hid (HB46.out.trans (hb7.mono HB46.out.size))
          have z7 : w.heap.size < w7.heap.size := (Array.getElem?_eq_some_iff.1 K7.out).1
          have hs67 := hb7.size
          clear hb7 HSS HSR HSF
          have c0 : w7.cell? ⟨w.heap.size, 0, none⟩ = some (.slice ba p.bounds.length bc) := by rw [cell_of_row _ _ _ _ _ _ K7.out]; rfl
          have c1 : w7.cell? ⟨w.heap.size, 1, none⟩ = some (.slice ra p.rules.length rc) := by rw [cell_of_row _ _ _ _ _ _ K7.out]; rfl
          go_wp2_with fail
          refine (core_any p _ _ w7 (HBV.out.below HB7.out hB) (HRV.out.below HB7.out hB) hB0 (by omega) HUB.out (HT.out.below HB7.out hw0)).mono ?_
          rintro e w8 ⟨rv8, rfl, hci, hb8⟩
          have HB8 := Lib.hid (HB7.out.trans (hb8.mono HB7.out.size)); have K8 := Lib.hid (heap_later K7.out hb8 z7); have HB48 := Lib.hid (HB47.out.trans (hb8.mono HB47.out.size))
          have z8 : w.heap.size < w8.heap.size := (Array.getElem?_eq_some_iff.1 K8.out).1
          have hs78 := hb8.size
          clear hb8 c0 c1
          by_cases hne : L = []
          · have h2 := HCORE.out.2 hne
            have hl0 : L.length = 0 := by rw [hne]; rfl
            rw [hl0]
            clear hn1 hn2 hbne h100
            rcases h2 with ⟨hcr, h6⟩ | ⟨c, hcr, hc1, hc2, hc3⟩
            · rw [hcr] at hci ⊢
              obtain ⟨ka, kc, rfl⟩ := ints_empty hci
              rw [openN_pad, ← HON.out] at h6
              have h6' : (6 : Int) < ((on : Nat) : Int) := by omega
              clear hcr hci h6 hne hl0
              have c0 : w8.cell? ⟨w.heap.size, 0, none⟩ = some (.slice ba p.bounds.length bc) := by rw [cell_of_row _ _ _ _ _ _ K8.out]; rfl
              have c1 : w8.cell? ⟨w.heap.size, 1, none⟩ = some (.slice ra p.rules.length rc) := by rw [cell_of_row _ _ _ _ _ _ K8.out]; rfl
              go_wp2_with fail
              refine (open_any p _ _ w8 (HBV.out.below HB8.out hB) (by have := HB8.out.size; omega) HUB.out hb9).mono ?_
              rintro e w9 ⟨rfl, hbo⟩
              have HB9 := Lib.hid (HB8.out.trans (hbo.mono HB8.out.size))
              rw [← HON.out]
              clear hbo c0 c1
              go_wp2_with fail
              refine (works_any _ (HT.out.below HB9.out hw0) (by have := HB9.out.size; omega)).mono ?_
              rintro e1 w9 ⟨rfl, hb9⟩
              have HF := Lib.hid (HB9.out.trans (hb9.mono HB9.out.size))
              clear hb9
              go_wp2
              go_ret
              exact ⟨rfl, HF.out⟩
            · have hok := coreOk HPO.out hc1 hc2 hc3
              rw [hcr] at hci ⊢
              obtain ⟨ka, kc, rfl⟩ := hci.slice
              have hml : (c.map natI).length = c.length := by simp
              have hcf := hok.few
              have hcg : ¬ ((p.rules.length : Nat) : Int) < ((c.length : Nat) : Int) := by omega
              have hch := chosen_any p c (-1) (by omega) hok.low hr12 _ _ _ w8 ((HBV.out.below HB8.out hB).mono (Nat.le_trans hB HB8.out.size)) ((HRV.out.below HB8.out hB).mono (Nat.le_trans hB HB8.out.size)) hci (by omega) (Nat.le_refl _)
              rw [eraseI_neg] at hch
              have HOK := Lib.hid hok; have HCI := Lib.hid hci; have HCH := Lib.hid hch; have HML := Lib.hid hml
              rw [hml] at HCH ⊢
              clear hcr hci hok hc1 hc2 hc3 hne hl0 hml hch
              have c0 : w8.cell? ⟨w.heap.size, 0, none⟩ = some (.slice ba p.bounds.length bc) := by rw [cell_of_row _ _ _ _ _ _ K8.out]; rfl
              have c1 : w8.cell? ⟨w.heap.size, 1, none⟩ = some (.slice ra p.rules.length rc) := by rw [cell_of_row _ _ _ _ _ _ K8.out]; rfl
              go_wp2_with fail
              refine HCH.out.mono ?_
              rintro e w9 ⟨r9, rfl, hr9, hb9'⟩
              have HB9 := Lib.hid (HB8.out.trans (hb9'.mono HB8.out.size)); have K9 := Lib.hid (heap_later K8.out hb9' z8); have HB89 := Lib.hid hb9'
              have z9 : w.heap.size < w9.heap.size := (Array.getElem?_eq_some_iff.1 K9.out).1
              have hs89 := hb9'.size
              have hf9 := found_any (pick p c) HOK.out.ok 1 (by decide) (by decide) (.slice ba p.bounds.length bc) r9 w9 ((HBV.out.below HB9.out hB).mono (Nat.le_trans hB HB9.out.size)) hr9 (Nat.le_refl _)
              rw [show ((1 : Nat) : Int) = 1 from rfl, HOK.out.none] at hf9
              have HF9 := Lib.hid hf9
              clear hr9 hb9' hf9 HCH c0 c1
              go_wp2_with fail
              refine HF9.out.mono ?_
              rintro e w10 ⟨v10, rfl, hso10, hb10⟩
              obtain ⟨xa, xc, rfl⟩ := sown_slice hso10
              have HB10 := Lib.hid (HB9.out.trans (hb10.mono HB9.out.size)); have K10 := Lib.hid (heap_later K9.out hb10 z9); have HB810 := Lib.hid (HB89.out.trans (hb10.mono HB89.out.size))
              have z10 : w.heap.size < w10.heap.size := (Array.getElem?_eq_some_iff.1 K10.out).1
              clear hso10 hb10 HF9
              obtain ⟨_, a', c', hae, hkc1, hkc2, hkr⟩ := HCI.out
              cases hae
              rw [HML.out] at hkc1 hkr
              have HKR := Lib.hid hkr
              clear hkr
              go_wp2_with fail
              rw [show decide (p.rules.length < c.length) = false from decide_eq_false (by omega)]
              go_loopw [147] (fun iv wr => ∃ i : Nat, i ≤ c.length ∧ iv = .int .i64 i ∧ Below w10.heap.size w10 wr) (fun iv _ => c.length - (intOf iv).toNat)
              case atStart => exact ⟨0, Nat.zero_le _, rfl, Below.refl _ _⟩
              case round =>
                obtain ⟨i, hi, rfl, hb⟩ := hrel
                have HBr := Lib.hid (HB10.out.trans (hb.mono HB10.out.size)); have Kr := Lib.hid (heap_later K10.out hb z10); have HB8r := Lib.hid (HB810.out.trans (hb.mono HB810.out.size)); have HB := Lib.hid hb
                have zr : w.heap.size < wr.heap.size := (Array.getElem?_eq_some_iff.1 Kr.out).1
                have hs8r := HB8r.out.size
                have hs10r := hb.size
                clear hb
                by_cases hlt : i < c.length
                · obtain ⟨kb, ko, hka, hkB, hcell⟩ := HKR.out (by omega)
                  subst hka
                  have e0 : wr.cell? ⟨kb, ko + i, none⟩ = some (.int .i64 ((c[i] : Nat) : Int)) := by
                    rw [HB8r.out.cell (p := ⟨kb, ko + i, none⟩) hkB, hcell i (by omega)]
                    simp [iget, hlt, natI]
                  have hlow := HOK.out.low c[i] (List.getElem_mem hlt)
                  have hch := chosen_any p c (i : Int) (by omega) HOK.out.low hr12 _ _ _ wr ((HBV.out.below HBr.out hB).mono (Nat.le_trans hB HBr.out.size)) ((HRV.out.below HBr.out hB).mono (Nat.le_trans hB HBr.out.size)) ((HCI.out.below HB8r.out (Nat.le_refl _)).mono hs8r) (by omega) (Nat.le_refl _)
                  rw [eraseI_nat, HML.out] at hch
                  have HCH := Lib.hid hch
                  have hup : ∀ j, i = j + 1 → wr.cell? ⟨kb, ko + j, none⟩ = some (.int .i64 ((nget c j : Nat) : Int)) ∧ nget c j < c[i] := fun j hj => by
                    refine ⟨?_, ?_⟩
                    · rw [HB8r.out.cell (p := ⟨kb, ko + j, none⟩) hkB, hcell j (by omega)]
                      have : j < c.length := by omega
                      simp [iget, natI, nget, this]
                    · have := HOK.out.up i hlt (by omega)
                      unfold nget
                      rw [List.getElem?_eq_getElem (by omega)]
                      subst hj
                      exact this
                  have hsom := HOK.out.some i hlt
                  have hoki := HOK.out.okI i
                  obtain ⟨r, hr⟩ : ∃ r, r = c[i] := ⟨_, rfl⟩
                  rw [← hr] at e0 hlow hup
                  have hr0 : ¬ ((r : Nat) : Int) < 0 := by omega
                  have hrl : ¬ ((p.rules.length : Nat) : Int) ≤ ((r : Nat) : Int) := by omega
                  have HSOM := Lib.hid hsom; have HOKI := Lib.hid hoki
                  clear hcell hch hr hsom hoki
                  have c0 : wr.cell? ⟨w.heap.size, 0, none⟩ = some (.slice ba p.bounds.length bc) := by rw [cell_of_row _ _ _ _ _ _ Kr.out]; rfl
                  have c1 : wr.cell? ⟨w.heap.size, 1, none⟩ = some (.slice ra p.rules.length rc) := by rw [cell_of_row _ _ _ _ _ _ Kr.out]; rfl
                  by_cases h0 : i = 0
                  · have hz : ¬ (0 : Int) < ((i : Nat) : Int) := by omega
                    clear hup h0
                    go_wp2_with fail
                    refine HCH.out.mono ?_
                    rintro e wA ⟨rA, rfl, hrA, hbA⟩
                    have HBA := Lib.hid (HBr.out.trans (hbA.mono HBr.out.size)); have HBoA := Lib.hid (HB.out.trans (hbA.mono HB.out.size))
                    have hfA := found_any (pick p (c.eraseIdx i)) HOKI.out 1 (by decide) (by decide) (.slice ba p.bounds.length bc) rA wA ((HBV.out.below HBA.out hB).mono (Nat.le_trans hB HBA.out.size)) hrA (Nat.le_refl _)
                    rw [show ((1 : Nat) : Int) = 1 from rfl] at hfA
                    obtain ⟨fl, hflq⟩ : ∃ fl, fl = foundR (pick p (c.eraseIdx i)) 1 := ⟨_, rfl⟩
                    have hfl0 : 0 < fl.length := by rw [hflq]; exact List.length_pos_iff.2 HSOM.out
                    rw [← hflq] at hfA
                    have hfl1 : (((fl.length : Nat) : Int) == 0) = false := by rw [beq_eq_false_iff_ne]; omega
                    have HFA := Lib.hid hfA
                    clear hrA hbA hfA hflq HCH HOKI HSOM c0 c1
                    go_wp2_with fail
                    refine HFA.out.mono ?_
                    rintro e wC ⟨vC, rfl, hsoC, hbC⟩
                    obtain ⟨ya, yc, rfl⟩ := sown_slice hsoC
                    have HBoC := Lib.hid (HBoA.out.trans (hbC.mono HBoA.out.size))
                    clear hsoC hbC HFA
                    go_wp2
                    go_roundw
                    case rel => exact ⟨i + 1, by omega, by go_num, HBoC.out⟩
                    case measure => simp [intOf]; omega
                  · obtain ⟨j, hj⟩ : ∃ j, i = j + 1 := ⟨i - 1, by omega⟩
                    obtain ⟨e1, hjr⟩ := hup j hj
                    obtain ⟨r', hr'⟩ : ∃ r', r' = nget c j := ⟨_, rfl⟩
                    rw [← hr'] at e1 hjr
                    have hjr' : ¬ ((r : Nat) : Int) ≤ ((r' : Nat) : Int) := by omega
                    have hz : (0 : Int) < ((i : Nat) : Int) := by omega
                    have hji : ((i : Nat) : Int) - 1 = ((j : Nat) : Int) := by omega
                    have hjl : j < c.length := by omega
                    clear hup hr' h0 hj
                    go_wp2_with fail
                    refine HCH.out.mono ?_
                    rintro e wA ⟨rA, rfl, hrA, hbA⟩
                    have HBA := Lib.hid (HBr.out.trans (hbA.mono HBr.out.size)); have HBoA := Lib.hid (HB.out.trans (hbA.mono HB.out.size))
                    have hfA := found_any (pick p (c.eraseIdx i)) HOKI.out 1 (by decide) (by decide) (.slice ba p.bounds.length bc) rA wA ((HBV.out.below HBA.out hB).mono (Nat.le_trans hB HBA.out.size)) hrA (Nat.le_refl _)
                    rw [show ((1 : Nat) : Int) = 1 from rfl] at hfA
                    obtain ⟨fl, hflq⟩ : ∃ fl, fl = foundR (pick p (c.eraseIdx i)) 1 := ⟨_, rfl⟩
                    have hfl0 : 0 < fl.length := by rw [hflq]; exact List.length_pos_iff.2 HSOM.out
                    rw [← hflq] at hfA
                    have hfl1 : (((fl.length : Nat) : Int) == 0) = false := by rw [beq_eq_false_iff_ne]; omega
                    have HFA := Lib.hid hfA
                    clear hrA hbA hfA hflq HCH HOKI HSOM c0 c1
                    go_wp2_with fail
                    refine HFA.out.mono ?_
                    rintro e wC ⟨vC, rfl, hsoC, hbC⟩
                    obtain ⟨ya, yc, rfl⟩ := sown_slice hsoC
                    have HBoC := Lib.hid (HBoA.out.trans (hbC.mono HBoA.out.size))
                    clear hsoC hbC HFA
                    go_wp2
                    go_roundw
                    case rel => exact ⟨i + 1, by omega, by go_num, HBoC.out⟩
                    case measure => simp [intOf]; omega
                · have hi2 : i = c.length := by omega
                  subst hi2
                  go_wp2_with fail
                  refine (works_any _ (HT.out.below HBr.out hw0) (by have := HBr.out.size; omega)).mono ?_
                  rintro e1 w9 ⟨rfl, hb9⟩
                  have HF := Lib.hid (HBr.out.trans (hb9.mono HBr.out.size))
                  clear hb9
                  go_wp2
                  go_ret
                  exact ⟨rfl, HF.out⟩
          · have hcr := HCORE.out.1 hne
            rw [hcr] at hci ⊢
            obtain ⟨ka, kc, rfl⟩ := ints_empty hci
            have hL0 : 0 < L.length := List.length_pos_iff.2 hne
            have hgt : (0 : Int) < ((L.length : Nat) : Int) := by omega
            have hz : ¬ ((L.length : Nat) : Int) = 0 := by omega
            have hml := Nat.mod_lt by_ hL0
            obtain ⟨k, hk⟩ : ∃ k, k = 1 + by_ % L.length := ⟨_, rfl⟩
            have hkl : k ≤ L.length := by omega
            have hk1 : 1 ≤ k := by omega
            have hke : (1 : Int) + ((by_ : Nat) : Int) % ((L.length : Nat) : Int) = ((k : Nat) : Int) := by rw [hk]; omega
            have hq1 : 0 ≤ ((by_ : Nat) : Int) % ((L.length : Nat) : Int) := by omega
            have hq2 : ((by_ : Nat) : Int) % ((L.length : Nat) : Int) ≤ 100 := by omega
            have hyes := solve_yes p k _ _ w8 (HBV.out.below HB8.out hB) (HRV.out.below HB8.out hB) hB0 (by omega) HUB.out (HT.out.below HB8.out hw0) HPO.out (by unfold inB; simp; omega)
            have HYES := Lib.hid hyes; have HKE := Lib.hid hke; have HFW := Lib.hid (HFEWK.out k (by omega) (by omega))
            clear hne hci hcr hyes hke hk hml
            go_upto_region 18 with fail
            rw [HKE.out]
            clear hq1 hq2 hz
            have c0 : w8.cell? ⟨w.heap.size, 0, none⟩ = some (.slice ba p.bounds.length bc) := by rw [cell_of_row _ _ _ _ _ _ K8.out]; rfl
            have c1 : w8.cell? ⟨w.heap.size, 1, none⟩ = some (.slice ra p.rules.length rc) := by rw [cell_of_row _ _ _ _ _ _ K8.out]; rfl
            go_wp2_with fail
            refine HYES.out.mono ?_
            rintro e w9 ⟨hsr, hb9'⟩
            have HB9 := Lib.hid (HB8.out.trans (hb9'.mono HB8.out.size)); have HB49 := Lib.hid (HB48.out.trans (hb9'.mono HB48.out.size))
            clear hb9' c0 c1 HYES
            rcases hsr with ⟨ho, rfl⟩ | ⟨ho, sv9, rfl, hso9⟩
            · rw [HFW.out.1] at ho
              cases ho
            · have hle := HFW.out.2.1
              obtain ⟨mm, hmm⟩ : ∃ mm, mm = (searchR p k).nodes := ⟨_, rfl⟩
              rw [← hmm] at hle ⊢
              have hle' : ((mm : Nat) : Int) ≤ ((nn : Nat) : Int) := by omega
              rw [HFW.out.2.2, ← HLP.out] at hso9
              obtain ⟨xa, xc, rfl⟩ := sown_slice hso9
              have hlt : (L.take k).length = k := by simp; omega
              have hu1 : Uss w9 w9.heap.size (.slice xa (L.take k).length xc) (L.take k) := hso9.uss (by omega) (fun i hi => by rw [HROW.out _ (List.mem_of_mem_take (sget_mem hi))]; omega)
              have hu2 : Uss w9 w9.heap.size (.slice sa k sc) (L.take k) := Uss.take ((HSO.out.ck (CK.below HB49.out)).uss (by omega) HROW2.out) hkl
              have hss := sameSets_any (L.take k) (L.take k) _ _ w9 hu1 hu2 (Nat.le_refl _)
              rw [show sameS (L.take k) (L.take k) = true by unfold sameS; simp, hlt] at hss
              rw [hlt]
              have hkc : k ≤ sc := by omega
              have hkci : ((k : Nat) : Int) ≤ ((sc : Nat) : Int) := by omega
              have hk0i : (0 : Int) ≤ ((k : Nat) : Int) := by omega
              have HSS := Lib.hid hss
              clear ho hle hmm hso9 hlt hu1 hu2 hss HCORE HFEWK
              go_wp2_with fail
              refine HSS.out.mono ?_
              rintro e wa ⟨rfl, hba⟩
              have HBa := Lib.hid (HB9.out.trans (hba.mono HB9.out.size))
              clear hba HSS
              go_wp2_with fail
              refine (works_any _ (HT.out.below HBa.out hw0) (by have := HBa.out.size; omega)).mono ?_
              rintro e1 w9 ⟨rfl, hb9⟩
              have HF := Lib.hid (HBa.out.trans (hb9.mono HBa.out.size))
              clear hb9
              go_wp2
              go_ret
              exact ⟨rfl, HF.out⟩
end Go.Proofs.YtilbbnjfaoldoaaGreatDoor
