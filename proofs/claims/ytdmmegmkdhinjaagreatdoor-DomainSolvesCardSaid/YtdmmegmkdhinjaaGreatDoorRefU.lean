/- The reference of Domain: Solve, Best. -/
import Derived.Test.YtdmmegmkdhinjaaGreatDoorRefT
import Derived.Test.YtdmmegmkdhinjaaGreatDoorPlainX
namespace Go.Proofs.YtdmmegmkdhinjaaGreatDoor
open Go Go.RowKit
attribute [local go_sem] cell_grow u64_sAnd u64_sOr u64_sDiff sDiff_all zeqI zneI sAnd_bit_zero sAnd_bit_zeroN sAnd_bit_nonzero

def SolQ (s : Sq) (w : World) (e : Ending) (w' : World) : Prop := ∃ sv, e = .returned (.agg #[sv, .int .i64 (s.nodes : Nat), .bool s.opn]) ∧ LOwn w' w.heap.size sv s.got ∧ Below w.heap.size w w'
set_option maxRecDepth 100000 in
set_option maxHeartbeats 2000000 in
theorem refSolve_any (p : Dp) (hpo : probD p = true) (most : Int) (hmo : 0 < most) (dv rv : Value) (w : World) {B : Nat} (hdv : Us w B dv p.doms) (hrv : DRls w B rv p.rules) (hB : B ≤ w.heap.size) :
    Calls Tryz.prog 23 #[.agg #[dv, rv], .int .i64 most] w (SolQ (solS p most) w) := by
  have HDV := Lib.hid hdv; have HRV := Lib.hid hrv; have HPO := Lib.hid hpo
  obtain ⟨da, dc, rfl⟩ := hdv.slice
  obtain ⟨ra, rc, rfl⟩ := hrv.slice
  clear hdv hrv hpo
  have h2 := heap_new2 w (.cells #[.slice da p.doms.length dc, .slice ra p.rules.length rc] 25) (.cells #[.slice none 0 0, .int .i64 0, .bool false] 51)
  have hb2 := Below.new2 w (.cells #[.slice da p.doms.length dc, .slice ra p.rules.length rc] 25) (.cells #[.slice none 0 0, .int .i64 0, .bool false] 51)
  have H2 := Lib.hid h2; have HB2 := Lib.hid hb2
  clear h2 hb2
  obtain ⟨s, hs⟩ : ∃ s, s = solS p most := ⟨_, rfl⟩
  rw [← hs]
  have HS := Lib.hid hs
  clear hs
  go_enter Tryz.func23, Tryz.ntmps23
  go_upto_region 1 with fail
  refine abs_wp (fun Z => Z.heap[w.heap.size]? = some (.cells #[.slice da p.doms.length dc, .slice ra p.rules.length rc] 25 (0, 0)) ∧ Z.heap[w.heap.size + 1]? = some (.cells #[.slice none 0 0, .int .i64 0, .bool false] 51 (0, 0)) ∧ Below w.heap.size w Z) ⟨H2.out.1, H2.out.2, HB2.out⟩ ?_
  clear H2 HB2
  rintro W ⟨k0, k1, hb⟩
  have c0 : W.cell? ⟨w.heap.size, 0, none⟩ = some (.slice da p.doms.length dc) := by rw [cell_of_row _ _ _ _ _ _ k0]; rfl
  have c1 : W.cell? ⟨w.heap.size, 1, none⟩ = some (.slice ra p.rules.length rc) := by rw [cell_of_row _ _ _ _ _ _ k0]; rfl
  have z0 : w.heap.size < W.heap.size := (Array.getElem?_eq_some_iff.1 k0).1
  have hpp := probD_parts HPO.out
  have hnode := refNode_any p HPO.out most (.slice ra p.rules.length rc) B W.heap.size (by omega) (totalD (padD p.doms) + 1) p.doms ⟨0, false, []⟩ (.slice none 0 0) (.slice da p.doms.length dc) W W.heap.size (Nat.lt_succ_self _) rfl hpp.2.2.2.1 (Nat.le_refl _) (Nat.zero_le _) ⟨rfl, hmo⟩ (LOwn.nil _ _) ((HDV.out.below hb hB).mono (by omega)) (Nat.le_refl _) (HRV.out.below hb hB) (Nat.le_refl _)
  rw [show (nodeD p (solveF most) (totalD (padD p.doms) + 1) (padD p.doms) ⟨0, false, []⟩).2 = s from HS.out.symm] at hnode
  have HND := Lib.hid hnode; have K1 := Lib.hid k1; have HB := Lib.hid hb
  clear hnode k0 k1 hb hpp
  go_wp2_with fail
  refine HND.out.mono ?_
  rintro e w2 ⟨sv, rfl, hso, hkp⟩
  have hb2 := hkp.toBelow (B := W.heap.size) (Nat.le_refl _) (Nat.le_refl _) (fun _ _ h => h)
  have k2 := heap_later K1.out hb2 (Array.getElem?_eq_some_iff.1 K1.out).1
  have r0 : w2.cell? ⟨w.heap.size + 1, 0, none⟩ = some (.slice none 0 0) := by rw [cell_of_row _ _ _ _ _ _ k2]; rfl
  have r1 : w2.cell? ⟨w.heap.size + 1, 1, none⟩ = some (.int .i64 0) := by rw [cell_of_row _ _ _ _ _ _ k2]; rfl
  have r2 : w2.cell? ⟨w.heap.size + 1, 2, none⟩ = some (.bool false) := by rw [cell_of_row _ _ _ _ _ _ k2]; rfl
  have rf0 : w2.frozen? ⟨w.heap.size + 1, 0, none⟩ = false := by simp [World.frozen?, k2]
  have rf1 : w2.frozen? ⟨w.heap.size + 1, 1, none⟩ = false := by simp [World.frozen?, k2]
  have rf2 : w2.frozen? ⟨w.heap.size + 1, 2, none⟩ = false := by simp [World.frozen?, k2]
  have z1 : w.heap.size + 1 < w2.heap.size := (Array.getElem?_eq_some_iff.1 k2).1
  have j1 := set_row (o := 0) (v := sv) k2
  have j2 := set_row (o := 1) (v := .int .i64 (s.nodes : Nat)) j1
  have j3 := set_row (o := 2) (v := .bool s.opn) j2
  have hi : (Tryz.prog.info? 51).map (·.size) = some [sv, .int .i64 (s.nodes : Nat), .bool s.opn].length := by kernel_rfl
  have hld := run_loadVar_mid _ _ 0 _ [sv, .int .i64 (s.nodes : Nat), .bool s.opn] _ (row_range3 j3) Tryz.underlying51 rfl hi
  have hso3 := ((hso.setF (x := sv) (o := 0) k2 (by decide) (by decide)).setF (x := .int .i64 (s.nodes : Nat)) (o := 1) j1 (by decide) (by decide)).setF (x := .bool s.opn) (o := 2) j2 (by decide) (by decide)
  have hbf := (((HB.out.trans (hb2.mono HB.out.size)).setCell (p := ⟨w.heap.size + 1, 0, none⟩) (by show w.heap.size ≤ w.heap.size + 1; omega) sv).setCell (p := ⟨w.heap.size + 1, 1, none⟩) (by show w.heap.size ≤ w.heap.size + 1; omega) (.int .i64 (s.nodes : Nat))).setCell (p := ⟨w.heap.size + 1, 2, none⟩) (by show w.heap.size ≤ w.heap.size + 1; omega) (.bool s.opn)
  have HFIN := Lib.hid (And.intro hld (And.intro (hso3.mono (show w.heap.size ≤ W.heap.size by omega)) hbf))
  obtain ⟨sa, sc, rfl⟩ := hso.form
  clear hso hkp hb2 k2 j1 j2 j3 hi hld hso3 hbf HND K1 HB c0 c1
  go_wp2
  exact bodyPost_ret (results_cell1 (p := 4) (ty := 51) rfl rfl HFIN.out.1) rfl ⟨_, rfl, HFIN.out.2.1, HFIN.out.2.2⟩
/-- What the reference's Best hands back is what the program's does. -/
def BestQ (p : Dp) (v : Nat) (w : World) (e : Ending) (w' : World) : Prop := ∃ lv, e = .returned (.tuple #[lv, .int .i64 (besE p (v : Nat))]) ∧ w'.ownsRow w.heap.size 3 1 lv (besL p (v : Nat)).length (intsV (besL p (v : Nat))) ∧ Below w.heap.size w w'
set_option maxRecDepth 100000 in
set_option maxHeartbeats 4000000 in
theorem refBest_any (p : Dp) (hpo : probD p = true) (v : Nat) (hv : v < p.doms.length) (dv rv : Value) (w : World) {B : Nat} (hdv : Us w B dv p.doms) (hrv : DRls w B rv p.rules) (hB : B ≤ w.heap.size) :
    Calls Tryz.prog 25 #[.agg #[dv, rv], .int .i64 (v : Nat)] w (BestQ p v w) := by
  have HDV := Lib.hid hdv; have HRV := Lib.hid hrv; have HPO := Lib.hid hpo
  have hn8 := (probD_parts hpo).2.1
  obtain ⟨da, dc, rfl⟩ := hdv.slice
  obtain ⟨ra, rc, rfl⟩ := hrv.slice
  have HEE := Lib.hid (besE_eq hpo hv)
  have HLL := Lib.hid (besL_eq hpo hv)
  have HLN := Lib.hid (sol_lens hpo 2001)
  have hfw := sol_few p 2001
  clear hdv hrv hpo
  obtain ⟨s, hs⟩ : ∃ s, s = searchD p (solveF 2001) [] := ⟨_, rfl⟩
  rw [← hs] at HEE HLL HLN hfw
  have HSE : Hid (solS p 2001 = s) := Lib.hid hs.symm
  clear hs
  have K0 := Lib.hid (heap_new0 w (.cells #[.slice da p.doms.length dc, .slice ra p.rules.length rc] 25)); have HB0 := Lib.hid (Below.new1 w (.cells #[.slice da p.doms.length dc, .slice ra p.rules.length rc] 25))
  go_enter Tryz.func25, Tryz.ntmps25
  go_wp2_with fail
  refine (refSolve_any p HPO.out 2001 (by decide) _ _ _ (HDV.out.below HB0.out hB) (HRV.out.below HB0.out hB) (by simp; omega)).mono ?_
  rintro e w2 ⟨sv, rfl, hso, hb2⟩
  rw [HSE.out] at hso ⊢
  obtain ⟨sa, sc, rfl⟩ := hso.form
  have hbw2 := HB0.out.trans (hb2.mono HB0.out.size)
  have hs2 := hbw2.size
  have hnw := Below.new1 w2 (.cells #[.slice sa s.got.length sc, .int .i64 (s.nodes : Nat), .bool s.opn] 51)
  have HKS := Lib.hid (heap_new0 w2 (.cells #[.slice sa s.got.length sc, .int .i64 (s.nodes : Nat), .bool s.opn] 51))
  have HLO := Lib.hid ((hso.ck (CK.below hnw)).mono (show w.heap.size ≤ _ by simp))
  have HBW := Lib.hid (hbw2.trans (hnw.mono hs2))
  clear hso hb2 hbw2 hnw K0 HB0
  cases hop : s.opn
  case true =>
    have HF : Hid (besE p (v : Nat) = 8 ∧ besL p (v : Nat) = []) := Lib.hid (by
      have h1 : besE p (v : Nat) = 8 := by rw [HEE.out, hop]; rfl
      exact ⟨h1, by unfold besL; rw [if_neg (by omega)]⟩)
    rw [hop] at HKS HLO HBW
    clear hop
    go_wp2
    go_ret2
    exact ⟨_, by rw [HF.out.1]; rfl, by rw [HF.out.2]; exact World.ownsRow_nil _ _ _ _, HBW.out⟩
  case false =>
    have HOP := Lib.hid hop
    rw [hop] at HKS HLO HBW
    go_wp2_with fail
    go_loopw [7, 8] (fun ov iv wr => ∃ i : Nat, i ≤ s.got.length ∧ iv = .int .i64 i ∧ BOut p.doms.length w.heap.size ov wr (bestOf v (s.got.take i)) ∧ LOwn wr w.heap.size (.slice sa s.got.length sc) s.got ∧
      wr.heap[w2.heap.size]? = some (.cells #[.slice sa s.got.length sc, .int .i64 (s.nodes : Nat), .bool false] 51 (0, 0)) ∧ Below w.heap.size w wr) (fun _ iv _ => s.got.length - (intOf iv).toNat)
    case atStart => exact ⟨0, Nat.zero_le _, rfl, rfl, HLO.out, HKS.out, HBW.out⟩
    case round =>
      clear HKS HLO HBW hop
      obtain ⟨i, hi, rfl, hbo, hlo, hks, hb⟩ := hrel
      have HBO := Lib.hid hbo; have HLO := Lib.hid hlo; have HKS := Lib.hid hks; have HB := Lib.hid hb
      have s0 : wr.cell? ⟨w2.heap.size, 0, none⟩ = some (.slice sa s.got.length sc) := by rw [cell_of_row _ _ _ _ _ _ hks]; rfl
      have zs : w2.heap.size < wr.heap.size := (Array.getElem?_eq_some_iff.1 hks).1
      clear hks hb
      by_cases hlt : i < s.got.length
      · obtain ⟨cs, hcs, hcr⟩ := hlo
        obtain ⟨gs, cps, curs, hae, hgs, hgc, -, -, hcur⟩ := own_some hcs (by omega)
        cases hae
        obtain ⟨yv, hyv, hyo⟩ := hcr i hlt
        have hln : (lget s.got i).length = p.doms.length := HLN.out _ (by unfold lget; rw [List.getElem?_eq_getElem hlt]; exact List.getElem_mem hlt)
        rw [hln] at hyo
        obtain ⟨g, cp, cur, rfl, hgb, hg, -, -, -⟩ := own_some hyo (by omega)
        have zgs : gs < wr.heap.size := (Array.getElem?_eq_some_iff.1 hgc).1
        have zg : g < wr.heap.size := (Array.getElem?_eq_some_iff.1 hg).1
        have y0 : wr.cell? ⟨gs, i, none⟩ = some (.slice (some ⟨g, 0, none⟩) p.doms.length cp) := by rw [hcs.cellAt i (by omega)]; exact hyv
        have l0 : wr.cell? ⟨g, v, none⟩ = some (.int .i64 (iget (lget s.got i) v)) := by rw [hyo.cellAt v (by omega)]; exact ints_get _ _ (by omega)
        have HTK := Lib.hid (bestOf_take (v := v) hlt)
        have hvI : ((v : Nat) : Int) < ((p.doms.length : Nat) : Int) := by omega
        have hiI : ((i : Nat) : Int) < ((s.got.length : Nat) : Int) := by omega
        obtain ⟨l, hl⟩ : ∃ l, l = lget s.got i := ⟨_, rfl⟩
        rw [← hl] at hln hyo l0 HTK
        have HYO := Lib.hid hyo; have HLL1 := Lib.hid hln
        clear hcs hcr hgs hgc hcur hyv hyo hg hl hln
        rcases Nat.eq_zero_or_pos i with rfl | hi0
        · skip
          have hb0 : bestOf v (s.got.take 0) = none := rfl
          have HTK2 : Hid (bestOf v (s.got.take 1) = some l) := Lib.hid (by rw [HTK.out, hb0]; rfl)
          obtain rfl : u7 = .slice none 0 0 := hbo
          go_wp2_with fail
          refine wp_region_qb (by kernel_rfl) (by kernel_rfl) ?_
          repeat go_big_quiet_step (fail)
          refine wpQuiet_nil ?_
          intro w5 hb5
          have s5 : w5.cell? ⟨w2.heap.size, 0, none⟩ = some (.slice (some ⟨gs, 0, none⟩) s.got.length sc) := (hb5.cell (p := ⟨w2.heap.size, 0, none⟩) zs).trans s0
          have y5 : w5.cell? ⟨gs, 0, none⟩ = some (.slice (some ⟨g, 0, none⟩) p.doms.length cp) := (hb5.cell (p := ⟨gs, 0, none⟩) zgs).trans y0
          have HYO5 := Lib.hid (own_ck HYO.out (CK.below hb5)); have HLO5 := Lib.hid (HLO.out.ck (CK.below hb5)); have HKS5 := Lib.hid (heap_later HKS.out hb5 zs); have HB5 := Lib.hid (HB.out.trans (hb5.mono HB.out.size))
          clear hb5 s0 y0 l0
          go_wp2
          go_roundw
          case rel => exact ⟨1, by omega, by go_num, by rw [HTK2.out]; exact ⟨HLL1.out, HYO5.out⟩, HLO5.out, HKS5.out, HB5.out⟩
          case measure => simp [intOf]; omega
        · skip
          have hi1 : ((((i : Nat) : Int)) == 0) = false := by rw [beq_eq_false_iff_ne]; omega
          obtain ⟨o, ho⟩ : ∃ o, bestOf v (s.got.take (i)) = some o := by
            cases hbb : bestOf v (s.got.take (i)) with
            | some o => exact ⟨o, rfl⟩
            | none =>
              have := congrArg List.length (bestOf_none.1 hbb)
              rw [List.length_take, List.length_nil] at this
              omega
          rw [ho] at hbo HTK HBO
          obtain ⟨hol, hob⟩ := hbo
          obtain ⟨g', cp', cur', rfl, _, hg', -, -, -⟩ := own_some hob (by omega)
          have l1 : wr.cell? ⟨g', v, none⟩ = some (.int .i64 (iget o v)) := by rw [hob.cellAt v (by omega)]; exact ints_get _ _ (by omega)
          have zg' : g' < wr.heap.size := (Array.getElem?_eq_some_iff.1 hg').1
          have HOB := Lib.hid hob; have HOL := Lib.hid hol
          have HTB : Hid (bestOf v (s.got.take (i + 1)) = if iget l v < iget o v then some l else some o) := Lib.hid HTK.out
          obtain ⟨x, hx⟩ : ∃ x, x = iget l v := ⟨_, rfl⟩
          obtain ⟨y, hy⟩ : ∃ y, y = iget o v := ⟨_, rfl⟩
          rw [← hx] at l0 HTB
          rw [← hy] at l1 HTB
          clear ho hob hg' hx hy HTK hol
          by_cases hxy : x < y
          · have HT2 : Hid (bestOf v (s.got.take (i + 1)) = some l) := Lib.hid (by rw [HTB.out, if_pos hxy])
            go_wp2_with fail
            refine wp_region_qb (by kernel_rfl) (by kernel_rfl) ?_
            repeat go_big_quiet_step (fail)
            refine wpQuiet_nil ?_
            intro w5 hb5
            have s5 : w5.cell? ⟨w2.heap.size, 0, none⟩ = some (.slice (some ⟨gs, 0, none⟩) s.got.length sc) := (hb5.cell (p := ⟨w2.heap.size, 0, none⟩) zs).trans s0
            have y5 : w5.cell? ⟨gs, i, none⟩ = some (.slice (some ⟨g, 0, none⟩) p.doms.length cp) := (hb5.cell (p := ⟨gs, i, none⟩) zgs).trans y0
            have HYO5 := Lib.hid (own_ck HYO.out (CK.below hb5)); have HLO5 := Lib.hid (HLO.out.ck (CK.below hb5)); have HKS5 := Lib.hid (heap_later HKS.out hb5 zs); have HB5 := Lib.hid (HB.out.trans (hb5.mono HB.out.size))
            clear hb5 s0 y0 l0 l1
            go_wp2
            go_roundw
            case rel => exact ⟨i + 1, by omega, by go_num, by rw [HT2.out]; exact ⟨HLL1.out, HYO5.out⟩, HLO5.out, HKS5.out, HB5.out⟩
            case measure => simp [intOf]; omega
          · have HT2 : Hid (bestOf v (s.got.take (i + 1)) = some o) := Lib.hid (by rw [HTB.out, if_neg hxy])
            have hxD : decide (x < y) = false := decide_eq_false hxy
            clear hxy
            go_wp2_with fail
            refine wp_region_qb (by kernel_rfl) (by kernel_rfl) ?_
            repeat go_big_quiet_step (fail)
            refine wpQuiet_nil ?_
            intro w5 hb5
            have HOB5 := Lib.hid (own_ck HOB.out (CK.below hb5)); have HLO5 := Lib.hid (HLO.out.ck (CK.below hb5)); have HKS5 := Lib.hid (heap_later HKS.out hb5 zs); have HB5 := Lib.hid (HB.out.trans (hb5.mono HB.out.size))
            clear hb5 s0 y0 l0 l1
            go_wp2
            go_roundw
            case rel => exact ⟨i + 1, by omega, by go_num, by rw [HT2.out]; exact ⟨HOL.out, HOB5.out⟩, HLO5.out, HKS5.out, HB5.out⟩
            case measure => simp [intOf]; omega
      · have hi2 : i = s.got.length := by omega
        subst hi2
        rw [List.take_length] at hbo HBO
        cases hbb : bestOf v s.got with
        | none =>
          rw [hbb] at hbo HEE HLL
          obtain rfl : u7 = .slice none 0 0 := hbo
          have HF : Hid (besE p (v : Nat) = 5 ∧ besL p (v : Nat) = []) := Lib.hid ⟨by rw [HEE.out, HOP.out]; rfl, by rw [HLL.out HOP.out]; rfl⟩
          clear hbb hlo
          go_wp2
          go_ret2
          exact ⟨_, by rw [HF.out.1]; rfl, by rw [HF.out.2]; exact World.ownsRow_nil _ _ _ _, HB.out⟩
        | some o =>
          rw [hbb] at hbo HEE HLL
          obtain ⟨hol, hob⟩ := hbo
          have HF : Hid (besE p (v : Nat) = 0 ∧ besL p (v : Nat) = o) := Lib.hid ⟨by rw [HEE.out, HOP.out]; rfl, by rw [HLL.out HOP.out]; rfl⟩
          obtain ⟨oa, oc, rfl⟩ := own_form hob
          have hnI : ((((p.doms.length : Nat) : Int)) == 0) = false := by rw [beq_eq_false_iff_ne]; omega
          have hnN : (p.doms.length == 0) = false := by rw [beq_eq_false_iff_ne]; omega
          have HOB := Lib.hid hob; have HOL := Lib.hid hol
          clear hbb hlo hob hol
          go_wp2
          go_ret2
          exact ⟨_, by rw [HF.out.1]; rfl, by rw [HF.out.2, HOL.out]; exact HOB.out, HB.out⟩
end Go.Proofs.YtdmmegmkdhinjaaGreatDoor
