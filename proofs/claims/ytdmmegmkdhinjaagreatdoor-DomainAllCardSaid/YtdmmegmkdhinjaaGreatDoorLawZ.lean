/- The law DomainAll, walked. -/
import Derived.Test.YtdmmegmkdhinjaaGreatDoorAllC
import Derived.Test.YtdmmegmkdhinjaaGreatDoorAllP
import Derived.Test.YtdmmegmkdhinjaaGreatDoorCloneI
import Derived.Test.YtdmmegmkdhinjaaGreatDoorSortF
import Derived.Test.YtdmmegmkdhinjaaGreatDoorMinI
import Derived.Test.YtdmmegmkdhinjaaGreatDoorFine
import Derived.Test.YtdmmegmkdhinjaaGreatDoorSlEq
import Derived.Test.YtdmmegmkdhinjaaGreatDoorDPop
import Derived.Test.YtdmmegmkdhinjaaGreatDoorRefS
import Derived.Test.YtdmmegmkdhinjaaGreatDoorBO
namespace Go.Proofs.YtdmmegmkdhinjaaGreatDoor
open Go Go.RowKit
attribute [local go_sem] cell_grow u64_sAnd u64_sOr u64_sDiff sDiff_all zeqI zneI sAnd_bit_zero sAnd_bit_zeroN sAnd_bit_nonzero

theorem wrap_low (n : Nat) (h : n < 1000000) : wrap64 (n : Int) = n := by unfold wrap64; omega
theorem lget_take {ss : List (List Int)} {k i : Nat} (h : i < k) : lget (ss.take k) i = lget ss i := by unfold lget; rw [List.getElem?_take, if_pos h]
theorem Lls.take {w : World} {B : Nat} {a : Option Addr} {n cap : Nat} {xs : List (List Int)} (h : Lls w B (.slice a n cap) xs) {k : Nat} (hk : k ≤ xs.length) : Lls w B (.slice a k cap) (xs.take k) := by
  obtain ⟨c, hr, hc⟩ := h
  have hn : n = xs.length := by obtain ⟨_, a', cap', hv, _⟩ := hr; cases hv; rfl
  subst hn
  have e : (xs.take k).length = k := by simp; omega
  refine ⟨c, by rw [e]; exact Row.take hr hk, fun i hi => ?_⟩
  rw [lget_take (by omega)]
  exact hc i (by omega)
set_option maxRecDepth 100000 in
set_option maxHeartbeats 8000000 in
theorem domainAll_any (p : Dp) (by_ : Nat) (hby : by_ < 256) (dv rv : Value) (w : World) {B : Nat} (hdv : Us w B dv p.doms) (hrv : DRls w B rv p.rules) (hB0 : 0 < B) (hB : B ≤ w.heap.size) (hu : U64l p.doms) (hT : Tab w) :
    Gives Tryz.prog 6 #[.agg #[dv, rv], .int .u8 (by_ : Nat)] w (.bool true) := by
  unfold Gives
  have HDV := Lib.hid hdv; have HRV := Lib.hid hrv; have HT := Lib.hid hT; have HU := Lib.hid hu
  have hw0 : 0 < w.heap.size := by omega
  obtain ⟨da, dc, rfl⟩ := hdv.slice
  obtain ⟨ra, rc, rfl⟩ := hrv.slice
  clear hdv hrv hT hu
  have K0 := Lib.hid (heap_new0 w (.cells #[.slice da p.doms.length dc, .slice ra p.rules.length rc] 25)); have HB0 := Lib.hid (Below.new1 w (.cells #[.slice da p.doms.length dc, .slice ra p.rules.length rc] 25))
  go_enter Tryz.func6, Tryz.ntmps6
  go_wp2_with fail
  refine (fine_any p _ _ _ (HDV.out.below HB0.out hB) (HRV.out.below HB0.out hB) (by simp; omega) HU.out).mono ?_
  rintro e w1 ⟨rfl, hb1⟩
  have HB1 := Lib.hid (HB0.out.trans (hb1.mono (by simp))); have K1 := Lib.hid (heap_later K0.out hb1 (by simp))
  clear hb1 K0 HB0
  have z1 : w.heap.size < w1.heap.size := (Array.getElem?_eq_some_iff.1 K1.out).1
  cases hfi : smallD p && probD p
  case false =>
    clear hfi
    go_wp2_with fail
    refine (works_any _ (HT.out.below HB1.out hw0) (by have := HB1.out.size; omega)).mono ?_
    rintro e1 w9 ⟨rfl, hb9⟩
    have HF := Lib.hid (HB1.out.trans (hb9.mono HB1.out.size))
    clear hb9
    go_wp2
    go_ret
    exact ⟨rfl, HF.out⟩
  case true =>
    have hpo : probD p = true := by rw [Bool.and_eq_true] at hfi; exact hfi.2
    have HPO := Lib.hid hpo
    have hn1 := (probD_parts hpo).1
    have hn8 := (probD_parts hpo).2.1
    clear hfi hpo
    have c0 : w1.cell? ⟨w.heap.size, 0, none⟩ = some (.slice da p.doms.length dc) := by rw [cell_of_row _ _ _ _ _ _ K1.out]; rfl
    have c1 : w1.cell? ⟨w.heap.size, 1, none⟩ = some (.slice ra p.rules.length rc) := by rw [cell_of_row _ _ _ _ _ _ K1.out]; rfl
    go_wp2_with fail
    refine (wide_any p _ _ w1 (HDV.out.below HB1.out hB) (by omega) HU.out ra p.rules.length rc rfl).mono ?_
    rintro e w2 ⟨rfl, hb2⟩
    have HB2 := Lib.hid (HB1.out.trans (hb2.mono HB1.out.size)); have K2 := Lib.hid (heap_later K1.out hb2 z1)
    have z2 : w.heap.size < w2.heap.size := (Array.getElem?_eq_some_iff.1 K2.out).1
    clear hb2 c0 c1
    cases hwi : wideD p
    case true =>
      clear hwi
      go_wp2_with fail
      refine (works_any _ (HT.out.below HB2.out hw0) (by have := HB2.out.size; omega)).mono ?_
      rintro e1 w9 ⟨rfl, hb9⟩
      have HF := Lib.hid (HB2.out.trans (hb9.mono HB2.out.size))
      clear hb9
      go_wp2
      go_ret
      exact ⟨rfl, HF.out⟩
    case false =>
      clear hwi
      have HEM := Lib.hid (lawEmpty_any p.doms _ w2 (HDV.out.below HB2.out hB))
      have c0 : w2.cell? ⟨w.heap.size, 0, none⟩ = some (.slice da p.doms.length dc) := by rw [cell_of_row _ _ _ _ _ _ K2.out]; rfl
      have c1 : w2.cell? ⟨w.heap.size, 1, none⟩ = some (.slice ra p.rules.length rc) := by rw [cell_of_row _ _ _ _ _ _ K2.out]; rfl
      go_wp2_with fail
      refine HEM.out.mono ?_
      rintro e w3 ⟨rfl, hb3⟩
      have HB3 := Lib.hid (HB2.out.trans (hb3.mono HB2.out.size)); have K3 := Lib.hid (heap_later K2.out hb3 z2)
      have z3 : w.heap.size < w3.heap.size := (Array.getElem?_eq_some_iff.1 K3.out).1
      clear hb3 c0 c1 HEM
      cases hem : p.doms.contains 0
      case true =>
        clear hem
        go_wp2_with fail
        refine (works_any _ (HT.out.below HB3.out hw0) (by have := HB3.out.size; omega)).mono ?_
        rintro e1 w9 ⟨rfl, hb9⟩
        have HF := Lib.hid (HB3.out.trans (hb9.mono HB3.out.size))
        clear hb9
        go_wp2
        go_ret
        exact ⟨rfl, HF.out⟩
      case false =>
        have HEM := Lib.hid hem
        clear hem
        go_upto_region 4 with fail
        refine abs_wp (fun Z => Z.heap[w3.heap.size]? = some (.cells #[.slice none 0 0] 46 (0, 0)) ∧ Below w3.heap.size w3 Z) ⟨heap_new0 _ _, Below.new1 _ _⟩ ?_
        rintro W ⟨kq, hbq⟩
        have KQ := Lib.hid kq
        have HBW := Lib.hid (HB3.out.trans (hbq.mono HB3.out.size)); have KW := Lib.hid (heap_later K3.out hbq z3)
        have zq : w3.heap.size < W.heap.size := (Array.getElem?_eq_some_iff.1 kq).1
        have zwW : w.heap.size < W.heap.size := by omega
        clear kq hbq
        have c0 : W.cell? ⟨w.heap.size, 0, none⟩ = some (.slice da p.doms.length dc) := by rw [cell_of_row _ _ _ _ _ _ KW.out]; rfl
        have c1 : W.cell? ⟨w.heap.size, 1, none⟩ = some (.slice ra p.rules.length rc) := by rw [cell_of_row _ _ _ _ _ _ KW.out]; rfl
        go_wp2_with fail
        clear c0 c1
        go_loopw [6, 37] (fun nv iv wr => ∃ i : Nat, i ≤ p.doms.length ∧ iv = .int .i64 i ∧ nv = .int .i64 (waysN i p.doms : Nat) ∧ wr = W) (fun _ iv _ => p.doms.length - (intOf iv).toNat)
        case atStart => exact ⟨0, Nat.zero_le _, rfl, rfl, rfl⟩
        case round =>
          obtain ⟨i, hi, rfl, rfl, rfl⟩ := hrel
          by_cases hlt : i < p.doms.length
          · obtain ⟨_, a', c', hae, _, _, hrow⟩ := HDV.out.below HBW.out hB
            cases hae
            obtain ⟨b1, o1, rfl, hb1, hc1⟩ := hrow (by omega)
            have q0 : wr.cell? ⟨b1, o1 + i, none⟩ = some (.int .u64 (nget p.doms i : Nat)) := hc1 i (by omega)
            have zb1 : b1 < wr.heap.size := by omega
            have hd16 : nget p.doms i < 65536 := (probD_parts HPO.out).2.2.2.1 i
            have hn16 : waysN (i + 1) p.doms ≤ 16 ^ 8 := Nat.le_trans (waysN_16 (probD_parts HPO.out).2.2.2.1 (i + 1)) (Nat.pow_le_pow_right (by decide) (by omega))
            have hwe : waysN (i + 1) p.doms = waysN i p.doms * sizeD (nget p.doms i) := rfl
            obtain ⟨a, ha⟩ : ∃ a, a = waysN i p.doms := ⟨_, rfl⟩
            obtain ⟨b, hb⟩ : ∃ b, b = sizeD (nget p.doms i) := ⟨_, rfl⟩
            rw [← ha, ← hb] at hwe
            obtain ⟨m, hmm⟩ : ∃ m, m = a * b := ⟨_, rfl⟩
            rw [← hmm] at hwe
            have HWE := Lib.hid hwe
            have hm2 : m ≤ 4294967296 := by
              have e : (16 : Nat) ^ 8 = 4294967296 := by decide
              omega
            have hww : IntKind.i64.wrap (((a : Nat) : Int) * ((b : Nat) : Int)) = ((m : Nat) : Int) := by
              rw [show ((a : Nat) : Int) * ((b : Nat) : Int) = ((m : Nat) : Int) by rw [hmm]; simp]; exact IntWalk.i64_in _ (by omega)
            rw [← ha]
            have HBB := Lib.hid hb
            clear hrow hc1 hn16 hwe hm2 hb ha hmm
            go_wp2_with fail
            refine (ones_any _ hd16 _).mono ?_
            rintro e w5 ⟨rfl, hw5⟩
            rw [hw5, ← HBB.out]
            clear hw5
            go_wp2
            go_roundw
            case rel => exact ⟨i + 1, by omega, by go_num, by rw [HWE.out], by first | rfl | trivial⟩
            case measure => simp [intOf]; omega
          · have hi2 : i = p.doms.length := by omega
            subst hi2
            obtain ⟨nw, hnw⟩ : ∃ nw, nw = waysN p.doms.length p.doms := ⟨_, rfl⟩
            rw [← hnw]
            have HNW := Lib.hid hnw
            clear hnw hlt hi
            have c0 : wr.cell? ⟨w.heap.size, 0, none⟩ = some (.slice da p.doms.length dc) := by rw [cell_of_row _ _ _ _ _ _ KW.out]; rfl
            have c1 : wr.cell? ⟨w.heap.size, 1, none⟩ = some (.slice ra p.rules.length rc) := by rw [cell_of_row _ _ _ _ _ _ KW.out]; rfl
            have hwa : waysA [] p.doms = waysL p.doms := by unfold waysA; simp
            have hch := chosen_st p HPO.out (.slice da p.doms.length dc) (.slice ra p.rules.length rc) w.heap.size w3.heap.size B wr.heap.size (by omega) (by omega) p.doms [] (.slice none 0 0) [] wr (by simp) (Nat.zero_le _) (fun j hj => by simp at hj) (by simp) ⟨HDV.out.below HBW.out hB, HRV.out.below HBW.out hB, KW.out, Nat.le_refl _⟩ (World.ownsRow_nil _ _ _ _) ⟨_, KQ.out, LOwn.nil _ _⟩
            rw [hwa] at hch
            have HCH := Lib.hid hch
            clear hch hwa
            go_wp2_with fail
            refine HCH.out.mono ?_
            rintro e w4 ⟨rfl, ⟨ov, hko, hso⟩, hk4⟩
            obtain ⟨want, hwant⟩ : ∃ want, want = wantZ p := ⟨_, rfl⟩
            have hso : LOwn w4 wr.heap.size ov want := by rw [hwant]; exact hso
            obtain ⟨fa, fc, rfl⟩ := hso.form
            have hpp := (AllAt.kept (p := p) (dv := .slice da p.doms.length dc) (rv := .slice ra p.rules.length rc) (qp := w.heap.size) (B := B) (base := wr.heap.size) ⟨HDV.out.below HBW.out hB, HRV.out.below HBW.out hB, KW.out, Nat.le_refl _⟩ KQ.out (by omega) (by omega) hk4).pp
            have K4 := Lib.hid hpp; have KO4 := Lib.hid hko; have HSF := Lib.hid hso; have HWA := Lib.hid hwant
            have HB4 := Lib.hid (HBW.out.trans (hk4.toBelow (B := w.heap.size) (by omega) (by omega) (fun q hq h => by unfold One at h; omega)))
            have zk4 := hk4.size
            have z4 : w.heap.size < w4.heap.size := by omega
            have zo4 : w3.heap.size < w4.heap.size := by omega
            have hwl : want.length ≤ 201 := by rw [hwant]; exact wantZ_len p
            clear hko hso hk4 hpp hwant HCH KQ KW c0 c1
            have o0 : w4.cell? ⟨w3.heap.size, 0, none⟩ = some (.slice fa want.length fc) := by rw [cell_of_row _ _ _ _ _ _ KO4.out]; rfl
            by_cases h199 : want.length ≤ 199
            · have h199i : ¬ (199 : Int) < (want.length : Int) := by omega
              have hls := leafP_sort HPO.out (by rw [← HWA.out]; exact h199)
              rw [← HWA.out] at hls
              obtain ⟨L, hL⟩ : ∃ L, L = leafP p := ⟨_, rfl⟩
              obtain ⟨N, hN⟩ : ∃ N, N = sizeP p := ⟨_, rfl⟩
              rw [← hL] at hls
              have HLS := Lib.hid hls.1; have HLN := Lib.hid hls.2
              have hlw := hls.2
              have HL := Lib.hid hL; have HN := Lib.hid hN
              have hN1 : 1 ≤ N := by rw [hN]; exact sizeP_pos p
              have hL199 : L.length ≤ 199 := by omega
              clear hls hL hN hlw
              have c0 : w4.cell? ⟨w.heap.size, 0, none⟩ = some (.slice da p.doms.length dc) := by rw [cell_of_row _ _ _ _ _ _ K4.out]; rfl
              have c1 : w4.cell? ⟨w.heap.size, 1, none⟩ = some (.slice ra p.rules.length rc) := by rw [cell_of_row _ _ _ _ _ _ K4.out]; rfl
              have HSOL := Lib.hid (solve_any p 200 (.slice da p.doms.length dc) (.slice ra p.rules.length rc) w4 (B := B) (HDV.out.below HB4.out hB) (HRV.out.below HB4.out hB) hB0 (by omega) (HT.out.below HB4.out hw0))
              go_wp2_with fail
              refine HSOL.out.mono ?_
              rintro e w5 ⟨lv, rfl, hls, hb5⟩
              have HB45 := Lib.hid hb5
              have HB5 := Lib.hid (HB4.out.trans (hb5.mono HB4.out.size)); have K5 := Lib.hid (heap_later K4.out hb5 z4); have KO5 := Lib.hid (heap_later KO4.out hb5 zo4)
              have HSF5 := Lib.hid (HSF.out.ck (CK.below hb5))
              have z45 := hb5.size
              have z5 : w.heap.size < w5.heap.size := by omega
              have zo5 : w3.heap.size < w5.heap.size := by omega
              clear hb5 c0 c1 o0 HSOL KO4 HSF
              by_cases hs : N ≤ 2000
              · obtain ⟨e1, e2, e3⟩ := solve_all HPO.out (by rw [← HL.out]; omega) (by rw [← HN.out]; exact hs)
                rw [e2, ← HL.out] at hls
                rw [e1, e3, ← HN.out]
                obtain ⟨sa, sc, rfl⟩ := hls.form
                have HLSO := Lib.hid hls
                clear hls e1 e2 e3
                have o0 : w5.cell? ⟨w3.heap.size, 0, none⟩ = some (.slice fa L.length fc) := by rw [cell_of_row _ _ _ _ _ _ KO5.out, HLN.out]; rfl
                have hbne : (((L.length : Nat) : Int) != ((L.length : Nat) : Int)) = false := by simp
                have hNa : ¬ (N : Int) < 1 := by omega
                have hNb : ¬ (2000 : Int) < (N : Int) := by omega
                have hL2 : L.length ≤ 200 := by omega
                have HCL := Lib.hid (clone_ls L (.slice sa L.length sc) w5 HLSO.out (by omega) z45)
                go_wp2_with fail
                refine HCL.out.mono ?_
                rintro e w6 ⟨cv, rfl, hcs, hcb, hb6⟩
                obtain ⟨ca, cc, rfl⟩ := hcs.form
                have HCS := Lib.hid hcs; have HCB := Lib.hid hcb; have HB56 := Lib.hid hb6
                have z56 := hb6.size
                clear hcs hcb hb6 HCL hbne o0
                have HONCE : Hid L.Nodup := Lib.hid (by rw [HL.out]; exact leafP_once HPO.out)
                have HROW : Hid (∀ i, i < L.length → (lget L i).length = p.doms.length) := Lib.hid fun i hi => by
                  refine leafP_row HPO.out ?_
                  rw [← HL.out]
                  unfold lget
                  rw [List.getElem?_eq_getElem hi]
                  exact List.getElem_mem hi
                have HSRT := Lib.hid (sortFunc_any L w6 w4.heap.size w5.heap.size _ HCS.out HCB.out HONCE.out (by omega) (fun i hi => by rw [HROW.out i hi]; omega))
                go_wp2_with fail
                refine HSRT.out.mono ?_
                rintro e w7 ⟨rfl, hsr, hk7⟩
                have hb57 := HB56.out.trans (hk7.toBelow (Nat.le_refl _) HB56.out.size (fun q hq h => h))
                have HB57 := Lib.hid hb57
                have HB7 := Lib.hid (HB5.out.trans (hb57.mono HB5.out.size)); have K7 := Lib.hid (heap_later K5.out hb57 z5); have KO7 := Lib.hid (heap_later KO5.out hb57 zo5)
                have z57 := hb57.size
                have HSR := Lib.hid hsr
                clear hsr hk7 hb57 HSRT HCS HCB HB56
                have o0 : w7.cell? ⟨w3.heap.size, 0, none⟩ = some (.slice fa L.length fc) := by rw [cell_of_row _ _ _ _ _ _ KO7.out, HLN.out]; rfl
                have hrw : ∀ i, i < want.length → (lget want i).length ≤ 1000 := fun i hi => by
                  have hm : lget want i ∈ L := by
                    rw [← sortZ_mem, HLS.out]
                    unfold lget
                    rw [List.getElem?_eq_getElem hi]
                    exact List.getElem_mem hi
                  obtain ⟨j, hj, e⟩ := List.mem_iff_getElem.1 hm
                  have := HROW.out j hj
                  unfold lget at this
                  rw [List.getElem?_eq_getElem hj] at this
                  rw [← e]
                  show (L[j]).length ≤ 1000
                  have : (L[j]).length = p.doms.length := this
                  omega
                have hs1 : Lls w7 w7.heap.size (.slice ca L.length cc) want := by
                  have h := HSR.out
                  rw [HLS.out] at h
                  exact h.lls (by omega) hrw
                have hs2 : Lls w7 w7.heap.size (.slice fa L.length fc) want := by
                  have h := (HSF5.out.ck (CK.below HB57.out)).lls (by omega) hrw
                  rw [← HLN.out] at h
                  exact h
                have hss := sameLists_any want want _ _ w7 hs1 hs2 (Nat.le_refl _)
                rw [show sameL want want = true by unfold sameL; simp] at hss
                have HSS := Lib.hid hss
                clear hs1 hs2 hss hrw
                go_wp2_with fail
                refine HSS.out.mono ?_
                rintro e w8 ⟨rfl, hb8⟩
                have HB58 := Lib.hid (HB57.out.trans (hb8.mono z57))
                have HB8 := Lib.hid (HB7.out.trans (hb8.mono HB7.out.size)); have K8 := Lib.hid (heap_later K7.out hb8 (by omega))
                have z8 : w.heap.size < w8.heap.size := (Array.getElem?_eq_some_iff.1 K8.out).1
                have z58 := HB58.out.size
                clear hb8 HSS HSR o0 K7 KO7 HB57
                obtain ⟨v, hv⟩ : ∃ v : Nat, v = by_ % p.doms.length := ⟨_, rfl⟩
                have hvl : v < p.doms.length := by rw [hv]; exact Nat.mod_lt _ (by omega)
                have hcv : IntKind.i64.wrap ((by_ : Nat) : Int) = (by_ : Int) := IntWalk.i64_in _ (by omega)
                have hmw : ((by_ : Nat) : Int) % (p.doms.length : Int) = (v : Int) := by rw [hv, Int.natCast_emod]
                have hem : ¬ (p.doms.length : Int) = 0 ∧ (0 : Int) ≤ (by_ : Int) % (p.doms.length : Int) := ⟨by omega, Int.emod_nonneg _ (by omega)⟩
                have hwr : wrap64 ((by_ : Int) % (p.doms.length : Int)) = (by_ : Int) % (p.doms.length : Int) := by rw [hmw]; unfold wrap64; omega
                have c0 : w8.cell? ⟨w.heap.size, 0, none⟩ = some (.slice da p.doms.length dc) := by rw [cell_of_row _ _ _ _ _ _ K8.out]; rfl
                have c1 : w8.cell? ⟨w.heap.size, 1, none⟩ = some (.slice ra p.rules.length rc) := by rw [cell_of_row _ _ _ _ _ _ K8.out]; rfl
                go_wp2_with fail
                rw [hmw]
                clear hwr hem hmw hv
                go_simp
                have hbn := Below.new1 w8 (.cells #[.int .i64 v] 3)
                have hkv := heap_new0 w8 (.cells #[.int .i64 v] 3)
                obtain ⟨w9, hw9⟩ : ∃ w9, w9 = w8.alloc (.cells #[.int .i64 v] 3) := ⟨_, rfl⟩
                rw [← hw9] at hbn hkv ⊢
                have z89 : w8.heap.size < w9.heap.size := by rw [hw9]; simp
                have HB9 := Lib.hid (HB8.out.trans (hbn.mono HB8.out.size)); have K9 := Lib.hid (heap_later K8.out hbn z8); have KV9 := Lib.hid hkv
                have HB59 := Lib.hid (HB58.out.trans (hbn.mono z58))
                have z59 := HB59.out.size
                have z9 : w.heap.size < w9.heap.size := by omega
                clear hbn hkv hw9 c0 c1 K8 HB58
                have v0 : w9.cell? ⟨w8.heap.size, 0, none⟩ = some (.int .i64 v) := by rw [cell_of_row _ _ _ _ _ _ KV9.out]; rfl
                have c0 : w9.cell? ⟨w.heap.size, 0, none⟩ = some (.slice da p.doms.length dc) := by rw [cell_of_row _ _ _ _ _ _ K9.out]; rfl
                have c1 : w9.cell? ⟨w.heap.size, 1, none⟩ = some (.slice ra p.rules.length rc) := by rw [cell_of_row _ _ _ _ _ _ K9.out]; rfl
                have HBST := Lib.hid (best_any p (v : Nat) (.slice da p.doms.length dc) (.slice ra p.rules.length rc) w9 (B := B) (HDV.out.below HB9.out hB) (HRV.out.below HB9.out hB) hB0 (by omega) (HT.out.below HB9.out hw0))
                go_wp2_with fail
                refine HBST.out.mono ?_
                rintro e w10 ⟨bv, rfl, hbo, hb10⟩
                obtain ⟨e1, e2⟩ := best_all HPO.out hvl (by rw [← HN.out]; exact hs)
                rw [e2, ← HL.out] at hbo
                rw [e1, ← HL.out]
                have HB10 := Lib.hid (HB9.out.trans (hb10.mono HB9.out.size)); have K10 := Lib.hid (heap_later K9.out hb10 z9); have KV10 := Lib.hid (heap_later KV9.out hb10 z89)
                have HB510 := Lib.hid (HB59.out.trans (hb10.mono z59))
                have z910 := hb10.size
                clear e1 e2 hb10 HBST v0 c0 c1 HB59 K9 KV9
                by_cases hL0 : L.length = 0
                · have hLn : L = [] := List.length_eq_zero_iff.1 hL0
                  have e0 : (((L.length : Nat) : Int) == 0) = true := by rw [hL0]; rfl
                  rw [if_pos hLn]
                  rw [hLn] at hbo
                  obtain ⟨ba, bc, rfl⟩ : ∃ a c, bv = .slice a 0 c := own_form hbo
                  clear hbo hLn hL0
                  go_wp2_with fail
                  refine (works_any _ (HT.out.below HB10.out hw0) (by have := HB10.out.size; omega)).mono ?_
                  rintro e1 w9 ⟨rfl, hb9⟩
                  have HF := Lib.hid (HB10.out.trans (hb9.mono HB10.out.size))
                  clear hb9
                  go_wp2
                  go_ret
                  exact ⟨rfl, HF.out⟩
                · have hLn : ¬ L = [] := fun h => hL0 (by rw [h]; rfl)
                  have e0 : (((L.length : Nat) : Int) == 0) = false := by rw [beq_eq_false_iff_ne]; omega
                  have hz : ¬ ((L.length : Nat) : Int) = 0 := by omega
                  rw [if_neg hLn]
                  have hfr : (firstD v L).length = p.doms.length := by
                    have hr : ∀ l ∈ L, l.length = p.doms.length := fun l hl => by rw [HL.out] at hl; exact leafP_row HPO.out hl
                    cases hLe : L with
                    | nil => exact absurd hLe hLn
                    | cons l ls =>
                      rw [hLe] at hr
                      exact minF_row ls l (hr l (by simp)) fun x hx => hr x (by simp [hx])
                  rw [hfr] at hbo
                  obtain ⟨ba, bc, rfl⟩ := own_form hbo
                  have HBO := Lib.hid hbo; have HFR := Lib.hid hfr
                  have hscl : L.length ≤ sc ∧ sc ≤ 9223372036854775807 := by
                    obtain ⟨cs, hc, _⟩ := HLSO.out
                    rcases hc.2 with ⟨h1, h2⟩ | ⟨g, cap, cur, h1, _, _, h2, h3, _⟩
                    · exact absurd h2 hL0
                    · cases h1; unfold maxLen at h3; exact ⟨h2, by omega⟩
                  have HSCL := Lib.hid hscl
                  clear hbo hfr hL0 hscl
                  go_upto_region 26 with fail
                  have hem2 : (0 : Int) ≤ (by_ : Int) % (L.length : Int) := Int.emod_nonneg _ (by omega)
                  clear e0 hz
                  go_upto_region 27 with fail
                  have hLp : 0 < L.length := Nat.pos_of_ne_zero fun h => hLn (List.length_eq_zero_iff.1 h)
                  obtain ⟨kk, hkk⟩ : ∃ kk, kk = 1 + by_ % L.length := ⟨_, rfl⟩
                  have hrl := Nat.mod_lt by_ hLp
                  rw [show wrap64 (1 + ((by_ : Nat) : Int) % (L.length : Int)) = ((kk : Nat) : Int) by
                    rw [← Int.natCast_emod, show (1 : Int) + ((by_ % L.length : Nat) : Int) = ((1 + by_ % L.length : Nat) : Int) by omega, wrap_low _ (by omega), hkk]]
                  have hkl : kk ≤ L.length := by omega
                  have hk1 : 1 ≤ kk := by omega
                  clear hem2 hkk hrl hLn
                  have c0 : w10.cell? ⟨w.heap.size, 0, none⟩ = some (.slice da p.doms.length dc) := by rw [cell_of_row _ _ _ _ _ _ K10.out]; rfl
                  have c1 : w10.cell? ⟨w.heap.size, 1, none⟩ = some (.slice ra p.rules.length rc) := by rw [cell_of_row _ _ _ _ _ _ K10.out]; rfl
                  have HFEW := Lib.hid (solve_any p (kk : Nat) (.slice da p.doms.length dc) (.slice ra p.rules.length rc) w10 (B := B) (HDV.out.below HB10.out hB) (HRV.out.below HB10.out hB) hB0 (by omega) (HT.out.below HB10.out hw0))
                  go_wp2_with fail
                  refine HFEW.out.mono ?_
                  rintro e w11 ⟨lv2, rfl, hls2, hb11⟩
                  obtain ⟨f1, f2, f3⟩ := solve_few HPO.out (k := kk) hk1 (by omega) (by rw [← HN.out]; exact hs)
                  obtain ⟨M, hM⟩ : ∃ M, M = solN p (kk : Nat) := ⟨_, rfl⟩
                  rw [f2, ← HL.out] at hls2
                  rw [f1, ← hM]
                  rw [← HN.out, ← hM] at f3
                  obtain ⟨ga, gc, rfl⟩ := hls2.form
                  have htk : (L.take kk).length = kk := by rw [List.length_take]; omega
                  have HB11 := Lib.hid (HB10.out.trans (hb11.mono HB10.out.size)); have K11 := Lib.hid (heap_later K10.out hb11 (by omega)); have KV11 := Lib.hid (heap_later KV10.out hb11 (by omega))
                  have HB511 := Lib.hid (HB510.out.trans (hb11.mono (by omega)))
                  have z511 := HB511.out.size
                  have z11 : w.heap.size < w11.heap.size := by omega
                  have hr1000 : ∀ i, i < L.length → (lget L i).length ≤ 1000 := fun i hi => by rw [HROW.out i hi]; omega
                  have hl1 := hls2.lls (by omega) (fun i hi => by rw [lget_take (by omega)]; exact hr1000 i (by omega))
                  have hl2 := ((HLSO.out.ck (CK.below HB511.out)).lls (by omega) hr1000).take hkl
                  have hsm := sameLists_any (L.take kk) (L.take kk) _ _ w11 hl1 hl2 (Nat.le_refl _)
                  rw [show sameL (L.take kk) (L.take kk) = true by unfold sameL; simp, htk] at hsm
                  have HSM := Lib.hid hsm
                  have HBO11 := Lib.hid (own_ck HBO.out (CK.below hb11))
                  have hMN : ¬ (N : Int) < (M : Int) := by omega
                  have hks : (kk : Int) ≤ (sc : Int) := by have := HSCL.out.1; omega
                  have hsc9 : sc ≤ 9223372036854775807 := HSCL.out.2
                  rw [htk]
                  clear f1 f2 hM hls2 hb11 hl1 hl2 hsm c0 c1 HFEW htk hr1000 K10 KV10 HBO
                  have c0 : w11.cell? ⟨w.heap.size, 0, none⟩ = some (.slice da p.doms.length dc) := by rw [cell_of_row _ _ _ _ _ _ K11.out]; rfl
                  have c1 : w11.cell? ⟨w.heap.size, 1, none⟩ = some (.slice ra p.rules.length rc) := by rw [cell_of_row _ _ _ _ _ _ K11.out]; rfl
                  go_wp2_with fail
                  refine HSM.out.mono ?_
                  rintro e w12 ⟨rfl, hb12⟩
                  have HB12 := Lib.hid (HB11.out.trans (hb12.mono HB11.out.size)); have K12 := Lib.hid (heap_later K11.out hb12 z11)
                  have HB512 := Lib.hid (HB511.out.trans (hb12.mono z511))
                  have hmf := minFunc_any L v p.doms.length w8.heap.size w4.heap.size (by omega) (by omega) (fun i hi => ⟨HROW.out i hi, by
                    refine leafP_val HPO.out ?_ v
                    rw [← HL.out]
                    unfold lget
                    rw [List.getElem?_eq_getElem hi]
                    exact List.getElem_mem hi⟩) hvl (by omega) (.slice sa L.length sc) w12 (HLSO.out.ck (CK.below HB512.out)) (heap_later KV11.out hb12 (Array.getElem?_eq_some_iff.1 KV11.out).1)
                  have HMF := Lib.hid hmf
                  have HBO12 := Lib.hid (own_ck HBO11.out (CK.below hb12))
                  clear hmf hb12 c0 c1 HSM K11 KV11 HBO11
                  have c0 : w12.cell? ⟨w.heap.size, 0, none⟩ = some (.slice da p.doms.length dc) := by rw [cell_of_row _ _ _ _ _ _ K12.out]; rfl
                  have c1 : w12.cell? ⟨w.heap.size, 1, none⟩ = some (.slice ra p.rules.length rc) := by rw [cell_of_row _ _ _ _ _ _ K12.out]; rfl
                  go_wp2_with fail
                  refine HMF.out.mono ?_
                  rintro e w13 ⟨rv2, rfl, hro, hb13⟩
                  obtain ⟨ra2, rc2, rfl⟩ := own_form hro
                  have HB13 := Lib.hid (HB12.out.trans (hb13.mono HB12.out.size))
                  have heq := equal_ints (firstD v L) (firstD v L) _ _ w13 (ownsRow_ints (own_ck HBO12.out (CK.below hb13)) (by omega) HFR.out) (ownsRow_ints hro (by omega) HFR.out) (Nat.le_refl _)
                  rw [show sameI (firstD v L) (firstD v L) = true by unfold sameI; simp] at heq
                  have HEQ := Lib.hid heq
                  clear heq hro hb13 HMF HBO12 c0 c1
                  go_wp2_with fail
                  refine HEQ.out.mono ?_
                  rintro e w14 ⟨rfl, hb14⟩
                  have HB14 := Lib.hid (HB13.out.trans (hb14.mono HB13.out.size))
                  clear hb14 HEQ
                  go_wp2_with fail
                  refine (works_any _ (HT.out.below HB14.out hw0) (by have := HB14.out.size; omega)).mono ?_
                  rintro e1 w9 ⟨rfl, hb9⟩
                  have HF := Lib.hid (HB14.out.trans (hb9.mono HB14.out.size))
                  clear hb9
                  go_wp2
                  go_ret
                  exact ⟨rfl, HF.out⟩
              · have e1 := solve_open HPO.out (by rw [← HL.out]; omega) (by rw [← HN.out]; omega)
                have e3 : solN p 200 = 0 := by unfold solN; rw [e1]; rfl
                have e2 : solL p 200 = [] := by unfold solL; rw [e1]; rfl
                rw [e2] at hls
                rw [e1, e3]
                obtain ⟨sa, sc, rfl⟩ := hls.form
                have hwy := sizeP_ways HPO.out HEM.out
                rw [← HNW.out, ← HN.out] at hwy
                have hng : (1000 : Int) < (nw : Int) := by omega
                clear hls e1 e2 e3 hwy
                go_wp2_with fail
                refine (works_any _ (HT.out.below HB5.out hw0) (by have := HB5.out.size; omega)).mono ?_
                rintro e1 w9 ⟨rfl, hb9⟩
                have HF := Lib.hid (HB5.out.trans (hb9.mono HB5.out.size))
                clear hb9
                go_wp2
                go_ret
                exact ⟨rfl, HF.out⟩
            · have h199i : (199 : Int) < (want.length : Int) := by omega
              go_wp2_with fail
              refine (works_any _ (HT.out.below HB4.out hw0) (by have := HB4.out.size; omega)).mono ?_
              rintro e1 w9 ⟨rfl, hb9⟩
              have HF := Lib.hid (HB4.out.trans (hb9.mono HB4.out.size))
              clear hb9
              go_wp2
              go_ret
              exact ⟨rfl, HF.out⟩
end Go.Proofs.YtdmmegmkdhinjaaGreatDoor
