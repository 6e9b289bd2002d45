/- The law SetsSound, walked. -/
import Derived.Test.YtilbbnjfaoldoaaDoorPlainJ
import Derived.Test.YtilbbnjfaoldoaaDoorLawF
namespace Go.Proofs.YtilbbnjfaoldoaaDoor
open Go Go.RowKit
attribute [local go_sem] cell_grow u64_sAnd u64_sOr u64_sDiff sDiff_all zeqI zneI sAnd_bit_zero sAnd_bit_zeroN sAnd_bit_nonzero rowOf_grow rowOk_grow rowOf_alloc rowOk_alloc

def soundOps : Array Oper := #[
  { dst := some 156, op := Op.fieldAddr 25 (Operand.tmp 2) 0, type := 0, pos := "outright.go:97", after := #[], guard := none },
  { dst := some 157, op := Op.load 22 (Operand.tmp 156), type := 22, pos := "outright.go:97", after := #[{ on := 0, ground := Ground.data }], guard := none },
  { dst := some 158, op := Op.move (Operand.tmp 1), type := 26, pos := "outright.go:97", after := #[], guard := none },
  { dst := some 159, op := Op.call { callee := Callee.value (Operand.func 44), args := #[Operand.tmp 157, Operand.tmp 158], argTypes := #[22, 26] }, type := 26, pos := "outright.go:97", after := #[{ on := 1, ground := Ground.data }, { on := 2, ground := Ground.data }], guard := none },
  { dst := some 160, op := Op.load 25 (Operand.tmp 2), type := 25, pos := "outright.go:97", after := #[], guard := none },
  { dst := some 161, op := Op.fieldAddr 25 (Operand.tmp 2) 0, type := 0, pos := "outright.go:97", after := #[], guard := none },
  { dst := some 162, op := Op.load 22 (Operand.tmp 161), type := 22, pos := "outright.go:97", after := #[{ on := 5, ground := Ground.data }], guard := none },
  { dst := some 163, op := Op.move (Operand.tmp 1), type := 26, pos := "outright.go:97", after := #[], guard := none },
  { dst := some 164, op := Op.call { callee := Callee.value (Operand.func 44), args := #[Operand.tmp 162, Operand.tmp 163], argTypes := #[22, 26] }, type := 26, pos := "outright.go:97", after := #[{ on := 6, ground := Ground.data }, { on := 7, ground := Ground.data }, { on := 3, ground := Ground.chain }], guard := none },
  { dst := some 165, op := Op.call { callee := Callee.value (Operand.func 45), args := #[Operand.tmp 160, Operand.tmp 164], argTypes := #[25, 26] }, type := 26, pos := "outright.go:97", after := #[{ on := 4, ground := Ground.data }, { on := 8, ground := Ground.data }, { on := 8, ground := Ground.chain }], guard := none },
  { dst := some 166, op := Op.move (Operand.tmp 5), type := 22, pos := "outright.go:97", after := #[], guard := none },
  { dst := some 167, op := Op.move (Operand.tmp 1), type := 26, pos := "outright.go:97", after := #[], guard := none },
  { dst := some 168, op := Op.call { callee := Callee.value (Operand.func 44), args := #[Operand.tmp 166, Operand.tmp 167], argTypes := #[22, 26] }, type := 26, pos := "outright.go:97", after := #[{ on := 10, ground := Ground.data }, { on := 11, ground := Ground.data }, { on := 9, ground := Ground.chain }], guard := none },
  { dst := some 169, op := Op.load 25 (Operand.tmp 2), type := 25, pos := "outright.go:97", after := #[], guard := none },
  { dst := some 170, op := Op.move (Operand.tmp 5), type := 22, pos := "outright.go:97", after := #[], guard := none },
  { dst := some 171, op := Op.move (Operand.tmp 1), type := 26, pos := "outright.go:97", after := #[], guard := none },
  { dst := some 172, op := Op.call { callee := Callee.value (Operand.func 44), args := #[Operand.tmp 170, Operand.tmp 171], argTypes := #[22, 26] }, type := 26, pos := "outright.go:97", after := #[{ on := 14, ground := Ground.data }, { on := 15, ground := Ground.data }, { on := 12, ground := Ground.chain }], guard := none },
  { dst := some 173, op := Op.call { callee := Callee.value (Operand.func 45), args := #[Operand.tmp 169, Operand.tmp 172], argTypes := #[25, 26] }, type := 26, pos := "outright.go:97", after := #[{ on := 13, ground := Ground.data }, { on := 16, ground := Ground.data }, { on := 16, ground := Ground.chain }], guard := none },
  { dst := some 174, op := Op.buildSlice 43 4 #[(0, Operand.tmp 159), (1, Operand.tmp 165), (2, Operand.tmp 168), (3, Operand.tmp 173)], type := 43, pos := "outright.go:97", after := #[{ on := 3, ground := Ground.data }, { on := 9, ground := Ground.data }, { on := 12, ground := Ground.data }, { on := 17, ground := Ground.data }], guard := none },
  { dst := some 175, op := Op.call { callee := Callee.builtin Builtin.len, args := #[Operand.tmp 174], argTypes := #[43] }, type := 3, pos := "outright.go:97", after := #[{ on := 18, ground := Ground.data }], guard := none },
  { dst := some 176, op := Op.move (Operand.const (Value.int IntKind.i64 0)), type := 3, pos := "outright.go:97", after := #[], guard := none }]
set_option maxRecDepth 100000 in
set_option maxHeartbeats 8000000 in
theorem setsSound_any (p : Prob) (by_ : List Nat) (bv rv yv : Value) (w : World) {B : Nat} (hbv : Bnds w B bv p.bounds) (hrv : Rls w B rv p.rules) (hyv : Us w B yv by_) (hB0 : 0 < B) (hB : B ≤ w.heap.size) (hub : U64s p.bounds) (huy : All64 by_) (hT : Tab w) :
    Gives Tryd.prog 9 #[.agg #[bv, rv], yv] w (.bool true) := by
  unfold Gives
  have HBV := Lib.hid hbv; have HRV := Lib.hid hrv; have HYV := Lib.hid hyv; have HT := Lib.hid hT; have HUB := Lib.hid hub; have HUY := Lib.hid huy
  have hw0 : 0 < w.heap.size := by omega
  obtain ⟨ba, bc, rfl⟩ := hbv.slice
  obtain ⟨ra, rc, rfl⟩ := hrv.slice
  obtain ⟨ya, yc, rfl⟩ := hyv.slice
  clear hbv hrv hyv hT hub huy
  have K0 := Lib.hid (heap_new0 w (.cells #[.slice ba p.bounds.length bc, .slice ra p.rules.length rc] 25)); have HB0 := Lib.hid (Below.new1 w (.cells #[.slice ba p.bounds.length bc, .slice ra p.rules.length rc] 25))
  go_enter Tryd.func9, Tryd.ntmps9
  go_wp2_with fail
  refine (fine_any p _ _ _ (HBV.out.below HB0.out hB) (HRV.out.below HB0.out hB) (by simp; omega) HUB.out).mono ?_
  rintro e w1 ⟨rfl, hb1⟩
  have HB1 := Lib.hid (HB0.out.trans (hb1.mono (by simp))); have K1 := Lib.hid (heap_later K0.out hb1 (by simp))
  clear hb1 K0 HB0
  have z1 : w.heap.size < w1.heap.size := (Array.getElem?_eq_some_iff.1 K1.out).1
  cases hfi : smallOk p && probOk p
  case false =>
    clear hfi
    go_wp2_with fail
    refine (works_any _ (HT.out.below HB1.out hw0) (by have := HB1.out.size; omega)).mono ?_
    rintro e1 w9 ⟨rfl, hb9⟩
    have HF := Lib.hid (HB1.out.trans (hb9.mono HB1.out.size))
    clear hb9
    go_wp2
    go_ret
    exact ⟨rfl, HF.out⟩
  case true =>
    have hpo : probOk p = true := by rw [Bool.and_eq_true] at hfi; exact hfi.2
    have HPO := Lib.hid hpo
    have hn1 := (probOk_fit hpo).1
    have hn8 := (probOk_fit hpo).2.1
    have hr12 := (probOk_fit hpo).2.2.1
    have hpc := prop_cases hpo
    have hver := ver_good hpo (facts_proof hpo)
    have hsat := (sound_at hpo).1
    have hg : Good p (propR p).1 := run_good hpo true
    obtain ⟨fs, hfs⟩ : ∃ fs, fs = (propR p).1.2 := ⟨_, rfl⟩
    obtain ⟨n, hn⟩ : ∃ n, n = (propR p).2 := ⟨_, rfl⟩
    obtain ⟨fin, hfin⟩ : ∃ fin, fin = (propR p).1.1.take p.bounds.length := ⟨_, rfl⟩
    have hfl : fs.length ≤ 96 := by rw [hfs]; have := hg.few; omega
    have hver2 : verN p fs = 0 ∧ verE p fs = 0 := by rw [hfs]; exact hver
    rw [← hfs, ← hfin] at hsat
    rw [← hn] at hpc
    have HSA := Lib.hid hsat; have HFS := Lib.hid hfs; have HN := Lib.hid hn; have HFIN := Lib.hid hfin
    have hpy := propagate_yes p _ _ w1 (HBV.out.below HB1.out hB) (HRV.out.below HB1.out hB) hB0 (by have := HB1.out.size; omega) HUB.out (HT.out.below HB1.out hw0) hpo
    rw [← hfs, ← hn, ← hfin] at hpy
    have HPY := Lib.hid hpy; have HVE := Lib.hid hver2
    clear hfi hpo hver hsat hg hfs hn hfin hpy hver2
    have c0 : w1.cell? ⟨w.heap.size, 0, none⟩ = some (.slice ba p.bounds.length bc) := by rw [cell_of_row _ _ _ _ _ _ K1.out]; rfl
    have c1 : w1.cell? ⟨w.heap.size, 1, none⟩ = some (.slice ra p.rules.length rc) := by rw [cell_of_row _ _ _ _ _ _ K1.out]; rfl
    go_wp2_with fail
    refine HPY.out.mono ?_
    rintro e w2 ⟨b', l', rfl, hpb, hpl, hb2⟩
    have HB2 := Lib.hid (HB1.out.trans (hb2.mono HB1.out.size)); have K2 := Lib.hid (heap_later K1.out hb2 z1)
    have HPB := Lib.hid hpb; have HPL := Lib.hid hpl
    obtain ⟨xa, xc, rfl⟩ : ∃ a c, b' = .slice a p.bounds.length c := by rw [← HSA.out.len]; exact hpb.slice
    obtain ⟨la, lc, rfl⟩ := hpl.slice
    have z2 : w.heap.size < w2.heap.size := (Array.getElem?_eq_some_iff.1 K2.out).1
    clear hb2 c0 c1 hpb hpl HPY
    have c0 : w2.cell? ⟨w.heap.size, 0, none⟩ = some (.slice ba p.bounds.length bc) := by rw [cell_of_row _ _ _ _ _ _ K2.out]; rfl
    have c1 : w2.cell? ⟨w.heap.size, 1, none⟩ = some (.slice ra p.rules.length rc) := by rw [cell_of_row _ _ _ _ _ _ K2.out]; rfl
    have hvv := verify_any p fs _ _ _ w2 ((HBV.out.below HB2.out hB).mono (Nat.le_trans hB HB2.out.size)) ((HRV.out.below HB2.out hB).mono (Nat.le_trans hB HB2.out.size)) HPL.out (Nat.le_refl _) HUB.out (HT.out.below HB2.out hw0) (by omega)
    rw [HVE.out.1, HVE.out.2] at hvv
    have HVV := Lib.hid hvv
    clear hvv HVE
    go_wp2_with fail
    refine HVV.out.mono ?_
    rintro e w3 ⟨rfl, hb3⟩
    have HB3 := Lib.hid (HB2.out.trans (hb3.mono HB2.out.size)); have K3 := Lib.hid (heap_later K2.out hb3 z2); have HB23 := Lib.hid hb3
    have z3 : w.heap.size < w3.heap.size := (Array.getElem?_eq_some_iff.1 K3.out).1
    clear hb3 c0 c1 HVV
    have c0 : w3.cell? ⟨w.heap.size, 0, none⟩ = some (.slice ba p.bounds.length bc) := by rw [cell_of_row _ _ _ _ _ _ K3.out]; rfl
    have c1 : w3.cell? ⟨w.heap.size, 1, none⟩ = some (.slice ra p.rules.length rc) := by rw [cell_of_row _ _ _ _ _ _ K3.out]; rfl
    have hl110 : ¬ (110 : Int) < ((fs.length : Nat) : Int) := by omega
    have hnl : ¬ n < -1 := by rcases hpc with h | ⟨j, h, _⟩ <;> omega
    have hnr : ¬ ((p.rules.length : Nat) : Int) ≤ n := by rcases hpc with h | ⟨j, h, h2⟩ <;> omega
    have HCL := Lib.hid (clone_bounds p.bounds (.slice ba p.bounds.length bc) w3 (HBV.out.below HB3.out hB) (by omega) (by omega))
    go_wp2_with fail
    refine HCL.out.mono ?_
    rintro e w4 ⟨g, gc, rfl, how, hb4⟩
    have hgl := (how.lt g rfl).1
    have HOW := Lib.hid how; have HB34 := Lib.hid hb4
    clear how hb4 c0 c1 HCL hl110 hnl hnr
    go_wp2_with fail
    go_loopw [82] (fun iv wr => ∃ i : Nat, i ≤ fs.length ∧ iv = .int .i64 i ∧ wr.ownsRow w3.heap.size 67 2 (.slice (some ⟨g, 0, none⟩) p.bounds.length gc) p.bounds.length (bCells (replay p.bounds (fs.take i))) ∧ Below w3.heap.size w3 wr) (fun iv _ => fs.length - (intOf iv).toNat)
    case atStart => exact ⟨0, Nat.zero_le _, rfl, HOW.out, HB34.out⟩
    case round =>
      clear HOW HB34
      obtain ⟨i, hi, rfl, how, hb⟩ := hrel
      have HOW := Lib.hid how; have HB := Lib.hid hb
      by_cases hlt : i < fs.length
      · obtain ⟨lb, lo, ov, hla, hlb, hov, l0, l1, l2, l3, l4⟩ := (HPL.out.below (HB23.out.trans (hb.mono HB23.out.size)) (Nat.le_refl _)).cells hlt
        subst hla
        have zl : lb < wr.heap.size := by have := hb.size; have := HB23.out.size; omega
        obtain ⟨oa, oc, rfl⟩ := hov.slice
        obtain ⟨v, e, hv, hvn, he, he12⟩ := HSA.out.fit i hlt
        have hop := HSA.out.opn i hlt
        have hrs := replay_succ (b := p.bounds) hlt
        obtain ⟨f, hf⟩ : ∃ f, f = fget fs i := ⟨_, rfl⟩
        rw [← hf] at l0 l1 l2 l3 l4 hv he hop hrs
        rw [hv] at l0
        rw [he] at l1
        obtain ⟨rp, hrp⟩ : ∃ rp, rp = replay p.bounds (fs.take i) := ⟨_, rfl⟩
        rw [← hrp] at HOW hop hrs
        unfold stepF at hrs
        rw [hv, he, Int.toNat_natCast, Int.toNat_natCast] at hop
        rw [hv, he, Int.toNat_natCast, Int.toNat_natCast] at hrs
        have hrl : rp.length = p.bounds.length := by rw [hrp]; exact replay_length _ _
        have hru : U64s rp := by rw [hrp]; exact (replay_s12 _ _ (fun f hf => fit_elems HSA.out.fit f (List.mem_of_mem_take hf)) (probOk_fit HPO.out).2.2.2.2).u64
        have HRS := Lib.hid hrs; have HOP := Lib.hid hop; have HRL := Lib.hid hrl; have HRU := Lib.hid hru
        clear hov how hb hv he hop hrs hf hrp hrl hru
        obtain ⟨wo, rfl⟩ : ∃ wo : World, wo = wr := ⟨_, rfl⟩
        go_upto_region 11 with fail
        refine abs_wp (fun Z => Z.heap[wo.heap.size]? = some (.cells #[.int .i64 (v : Int), .int .i64 (e : Int), .bool f.inn, .int .i64 f.rule, .slice oa f.why.length oc] 56 (0, 0)) ∧ Below wo.heap.size wo Z) ⟨heap_new0 _ _, Below.new1 _ _⟩ ?_
        clear l0 l1 l2 l3 l4
        rintro W ⟨kf, hbf⟩
        have d0 : W.cell? ⟨wo.heap.size, 0, none⟩ = some (.int .i64 (v : Int)) := by rw [cell_of_row _ _ _ _ _ _ kf]; rfl
        have d1 : W.cell? ⟨wo.heap.size, 1, none⟩ = some (.int .i64 (e : Int)) := by rw [cell_of_row _ _ _ _ _ _ kf]; rfl
        have d2 : W.cell? ⟨wo.heap.size, 2, none⟩ = some (.bool f.inn) := by rw [cell_of_row _ _ _ _ _ _ kf]; rfl
        have zf : wo.heap.size < W.heap.size := (Array.getElem?_eq_some_iff.1 kf).1
        have HOW2 := Lib.hid (own_ck HOW.out (CK.below hbf)); have HBW := Lib.hid (HB.out.trans (hbf.mono HB.out.size)); have KF := Lib.hid kf
        obtain ⟨g', gc', cur, hae, hga, hgac, -, -, hcur⟩ := own_some HOW2.out (by omega)
        cases hae
        have q0 : W.cell? ⟨g, v * 2, none⟩ = some (.int .u64 ((bget rp v).inn : Nat)) := by rw [cell_of_row _ _ _ _ _ _ hgac, hcur _ (by omega), bCells_get _ _ (by rw [HRL.out]; omega), bcellAt_inn]
        have q1 : W.cell? ⟨g, v * 2 + 1, none⟩ = some (.int .u64 ((bget rp v).can : Nat)) := by rw [cell_of_row _ _ _ _ _ _ hgac, hcur _ (by omega), bCells_get _ _ (by rw [HRL.out]; omega), bcellAt_can]
        have zg : g < W.heap.size := (Array.getElem?_eq_some_iff.1 hgac).1
        have hu1 := (HRU.out.get v).1
        have hu2 := (HRU.out.get v).2
        have HH := Lib.hid (fun (d : Nat) (os : Array Obj) => Gives.of_same (has_any (sDiff (bget rp v).can (bget rp v).inn) e (Go.Sort.grow (redrawn W d) os) hu2.diff he12))
        rw [show bitB (sDiff (bget rp v).can (bget rp v).inn) e = true from HOP.out] at HH
        have h12i : ¬ (12 : Int) ≤ (e : Int) := by omega
        have hv0 : ¬ (v : Int) < 0 := by omega
        have he0 : ¬ (e : Int) < 0 := by omega
        have hvi : ¬ ((p.bounds.length : Nat) : Int) ≤ (v : Int) := by omega
        clear kf hbf hgac hcur hga
        refine wp_region_qb (by kernel_rfl) (by kernel_rfl) ?_
        repeat go_big_quiet_step ((with_reducible exact Gives.quiet (HH.out _ _)))
        refine wpQuiet_nil ?_
        intro w5 hb5
        have HOW5 := Lib.hid (own_ck HOW2.out (CK.below hb5)); have HB5 := Lib.hid (HBW.out.trans (hb5.mono HBW.out.size)); have KF5 := Lib.hid (heap_later KF.out hb5 zf)
        have q05 := (hb5.cell (p := ⟨g, v * 2, none⟩) zg).trans q0
        have q15 := (hb5.cell (p := ⟨g, v * 2 + 1, none⟩) zg).trans q1
        clear hb5 HH q0 q1 d0 d1 d2 h12i hvi
        have hw5 := HB5.out.size
        have z5g : g < w5.heap.size := by have := (HOW5.out.lt g rfl).2; exact this
        have z5f : wo.heap.size < w5.heap.size := (Array.getElem?_eq_some_iff.1 KF5.out).1
        have d0 : w5.cell? ⟨wo.heap.size, 0, none⟩ = some (.int .i64 (v : Int)) := by rw [cell_of_row _ _ _ _ _ _ KF5.out]; rfl
        have d1 : w5.cell? ⟨wo.heap.size, 1, none⟩ = some (.int .i64 (e : Int)) := by rw [cell_of_row _ _ _ _ _ _ KF5.out]; rfl
        have hw := wrap_bit e (by omega)
        have hub := U64.bit (show e < 64 by omega)
        cases hin : f.inn
        case false =>
          have d2 : w5.cell? ⟨wo.heap.size, 2, none⟩ = some (.bool false) := by rw [cell_of_row _ _ _ _ _ _ KF5.out]; show some (Value.bool f.inn) = _; rw [hin]
          rw [hin] at HRS
          clear hin
          go_wp2_with fail
          refine wp_region_qbt 10 (by kernel_rfl) (by kernel_rfl) ?_
          simp only [List.take_succ_cons, List.take_zero, List.drop_succ_cons, List.drop_zero]
          repeat go_big_quiet_step (fail)
          refine wpQuiet_nil ?_
          intro w6 hb6
          have how6 := own_ck HOW5.out (CK.below hb6)
          have z6g : g < w6.heap.size := (how6.lt g rfl).2
          obtain ⟨g', gc', cur, hae, -, hgac, -, -, -⟩ := own_some how6 (by omega)
          cases hae
          have q6 : w6.cell? ⟨g, v * 2 + 1, none⟩ = some (.int .u64 (((bget rp v).can : Nat) : Int)) := (hb6.cell (p := ⟨g, v * 2 + 1, none⟩) z5g).trans (by assumption)
          have q6f : w6.frozen? ⟨g, v * 2 + 1, none⟩ = false := by simp [World.frozen?, hgac]
          have hst := (how6.stored (v * 2 + 1) (.int .u64 ((sDiff (bget rp v).can (bitN e) : Nat) : Int))).1
          rw [bCells_set_can _ _ _ (by rw [HRL.out]; omega)] at hst
          have hst2 : (w6.setCell ⟨g, v * 2 + 1, none⟩ (.int .u64 ((sDiff (bget rp v).can (bitN e) : Nat) : Int))).ownsRow w3.heap.size 67 2 (.slice (some ⟨g, 0, none⟩) p.bounds.length gc) p.bounds.length (bCells (replay p.bounds (fs.take (i + 1)))) := by rw [HRS.out]; exact hst
          have HST := Lib.hid hst2
          have HB6 := Lib.hid ((HB5.out.trans (hb6.mono HB5.out.size)).setCell (p := ⟨g, v * 2 + 1, none⟩) (show w3.heap.size ≤ g from hgl) (.int .u64 ((sDiff (bget rp v).can (bitN e) : Nat) : Int)))
          clear how6 hb6 hgac hst hst2
          go_wp2
          go_roundw
          case rel => exact ⟨i + 1, by omega, by go_num, HST.out, HB6.out⟩
          case measure => simp [intOf]; omega
        case true =>
          have d2 : w5.cell? ⟨wo.heap.size, 2, none⟩ = some (.bool true) := by rw [cell_of_row _ _ _ _ _ _ KF5.out]; show some (Value.bool f.inn) = _; rw [hin]
          rw [hin] at HRS
          clear hin
          go_wp2_with fail
          refine wp_region_qbt 10 (by kernel_rfl) (by kernel_rfl) ?_
          simp only [List.take_succ_cons, List.take_zero, List.drop_succ_cons, List.drop_zero]
          repeat go_big_quiet_step (fail)
          refine wpQuiet_nil ?_
          intro w6 hb6
          have how6 := own_ck HOW5.out (CK.below hb6)
          have z6g : g < w6.heap.size := (how6.lt g rfl).2
          obtain ⟨g', gc', cur, hae, -, hgac, -, -, -⟩ := own_some how6 (by omega)
          cases hae
          have q6 : w6.cell? ⟨g, v * 2, none⟩ = some (.int .u64 (((bget rp v).inn : Nat) : Int)) := (hb6.cell (p := ⟨g, v * 2, none⟩) z5g).trans (by assumption)
          have q6f : w6.frozen? ⟨g, v * 2, none⟩ = false := by simp [World.frozen?, hgac]
          have hst := (how6.stored (v * 2) (.int .u64 ((sOr (bget rp v).inn (bitN e) : Nat) : Int))).1
          rw [bCells_set_inn _ _ _ (by rw [HRL.out]; omega)] at hst
          have hst2 : (w6.setCell ⟨g, v * 2, none⟩ (.int .u64 ((sOr (bget rp v).inn (bitN e) : Nat) : Int))).ownsRow w3.heap.size 67 2 (.slice (some ⟨g, 0, none⟩) p.bounds.length gc) p.bounds.length (bCells (replay p.bounds (fs.take (i + 1)))) := by rw [HRS.out]; exact hst
          have HST := Lib.hid hst2
          have HB6 := Lib.hid ((HB5.out.trans (hb6.mono HB5.out.size)).setCell (p := ⟨g, v * 2, none⟩) (show w3.heap.size ≤ g from hgl) (.int .u64 ((sOr (bget rp v).inn (bitN e) : Nat) : Int)))
          clear how6 hb6 hgac hst hst2
          go_wp2
          go_roundw
          case rel => exact ⟨i + 1, by omega, by go_num, HST.out, HB6.out⟩
          case measure => simp [intOf]; omega
      · have hi2 : i = fs.length := by omega
        subst hi2
        rw [List.take_length, HSA.out.eq] at how
        have HOWF := Lib.hid how
        have hpb6 := HPB.out.below (HB23.out.trans (hb.mono HB23.out.size)) (Nat.le_refl _)
        have heq := equalB_any fin fin (.slice (some ⟨g, 0, none⟩) p.bounds.length gc) (.slice xa p.bounds.length xc) wr (bnds_own how HSA.out.len (by omega)) (hpb6.mono (by have := HB23.out.size; have := hb.size; omega)) (Nat.le_refl _)
        rw [show sameB fin fin = true by unfold sameB; simp] at heq
        have HEQ := Lib.hid heq
        clear how hb hpb6 heq HOW
        go_wp2_with fail
        refine HEQ.out.mono ?_
        rintro e w7 ⟨rfl, hb7⟩
        have HB7 := Lib.hid (HB23.out.trans ((HB.out.trans (hb7.mono HB.out.size)).mono HB23.out.size))
        clear hb7 HEQ HOWF HB hgl
        have hbw7 := HB2.out.trans (HB7.out.mono HB2.out.size)
        have HBW7 := Lib.hid hbw7
        have HPB7 := Lib.hid ((HPB.out.below HB7.out (Nat.le_refl _)).mono HB7.out.size)
        have HPL7 := Lib.hid ((HPL.out.below HB7.out (Nat.le_refl _)).mono HB7.out.size)
        have K7 := Lib.hid (heap_later K2.out HB7.out z2)
        have z7 : w.heap.size < w7.heap.size := (Array.getElem?_eq_some_iff.1 K7.out).1
        clear hbw7
        go_wp2_with fail
        have hheld : HeldP w.heap.size (.slice ba p.bounds.length bc) (.slice ra p.rules.length rc) w7 := ⟨by rw [cell_of_row _ _ _ _ _ _ K7.out]; rfl, by rw [cell_of_row _ _ _ _ _ _ K7.out]; rfl⟩
        have HH := Lib.hid hheld
        clear hheld
        have huf : U64s fin := HSA.out.s12.u64
        have HUF := Lib.hid huf
        have HFL := Lib.hid HSA.out.len
        clear huf
        refine wp_region_held_drew (S := HeldP w.heap.size (.slice ba p.bounds.length bc) (.slice ra p.rules.length rc)) (by kernel_rfl) (HH.out.low (Below.drewn (Below.refl w7.heap.size w7)) z7) (fun hHeld => ?_)
        change wpAnyH _ _ soundOps _ _ _ _ _ _
        refine abs_anyHS (fun Z => Below w7.heap.size w7 Z) (Below.drewn (Below.refl w7.heap.size w7)) hHeld ?_
        clear hHeld
        rintro V hbV hHeld
        have SL := Lib.hid (fun (Z : World) (h : HeldP w.heap.size (.slice ba p.bounds.length bc) (.slice ra p.rules.length rc) Z) => h)
        have HBV7 := Lib.hid (HB7.out.trans (hbV.mono HB7.out.size))
        have HB7V := Lib.hid hbV
        have hzV : w.heap.size < V.heap.size := by have := hbV.size; omega
        clear hbV
        refine wpAnyH_take (i := 0) (oi := { dst := some 156, op := Op.fieldAddr 25 (Operand.tmp 2) 0, type := 0, pos := "outright.go:97", after := #[], guard := none }) (v := ?_) rfl (by kernel_rfl) (by kernel_rfl) (by kernel_rfl) (fun _ _ _ h => h) (Or.inl ⟨by kernel_rfl, ?_⟩) hHeld ?_
        rotate_left
        · intro w hSw
          clear hSw
          go_simp
          try with_reducible rfl
        try simp only [Act.put, List.setIfInBounds_toArray, List.set_cons_zero, List.set_cons_succ]
        refine wpAnyH_take (i := 1) (oi := { dst := some 157, op := Op.load 22 (Operand.tmp 156), type := 22, pos := "outright.go:97", after := #[{ on := 0, ground := Ground.data }], guard := none }) (v := ?_) rfl (by kernel_rfl) (by kernel_rfl) (by kernel_rfl) (fun _ _ _ h => h) (Or.inl ⟨by kernel_rfl, ?_⟩) hHeld ?_
        rotate_left
        · intro w hSw
          obtain ⟨hs0, hs1⟩ := SL.out w hSw
          clear hSw
          go_simp
          try with_reducible rfl
        try simp only [Act.put, List.setIfInBounds_toArray, List.set_cons_zero, List.set_cons_succ]
        refine wpAnyH_take (i := 2) (oi := { dst := some 158, op := Op.move (Operand.tmp 1), type := 26, pos := "outright.go:97", after := #[], guard := none }) (v := ?_) rfl (by kernel_rfl) (by kernel_rfl) (by kernel_rfl) (fun _ _ _ h => h) (Or.inl ⟨by kernel_rfl, ?_⟩) hHeld ?_
        rotate_left
        · intro w hSw
          clear hSw
          go_simp
          try with_reducible rfl
        try simp only [Act.put, List.setIfInBounds_toArray, List.set_cons_zero, List.set_cons_succ]
        refine wpAnyH_take (i := 4) (oi := { dst := some 160, op := Op.load 25 (Operand.tmp 2), type := 25, pos := "outright.go:97", after := #[], guard := none }) (v := ?_) rfl (by kernel_rfl) (by kernel_rfl) (by kernel_rfl) (fun _ _ _ h => h) (Or.inl ⟨by kernel_rfl, ?_⟩) hHeld ?_
        rotate_left
        · intro w hSw
          obtain ⟨hs0, hs1⟩ := SL.out w hSw
          clear hSw
          go_simp
          try with_reducible rfl
        try simp only [Act.put, List.setIfInBounds_toArray, List.set_cons_zero, List.set_cons_succ]
        refine wpAnyH_take (i := 5) (oi := { dst := some 161, op := Op.fieldAddr 25 (Operand.tmp 2) 0, type := 0, pos := "outright.go:97", after := #[], guard := none }) (v := ?_) rfl (by kernel_rfl) (by kernel_rfl) (by kernel_rfl) (fun _ _ _ h => h) (Or.inl ⟨by kernel_rfl, ?_⟩) hHeld ?_
        rotate_left
        · intro w hSw
          clear hSw
          go_simp
          try with_reducible rfl
        try simp only [Act.put, List.setIfInBounds_toArray, List.set_cons_zero, List.set_cons_succ]
        refine wpAnyH_take (i := 6) (oi := { dst := some 162, op := Op.load 22 (Operand.tmp 161), type := 22, pos := "outright.go:97", after := #[{ on := 5, ground := Ground.data }], guard := none }) (v := ?_) rfl (by kernel_rfl) (by kernel_rfl) (by kernel_rfl) (fun _ _ _ h => h) (Or.inl ⟨by kernel_rfl, ?_⟩) hHeld ?_
        rotate_left
        · intro w hSw
          obtain ⟨hs0, hs1⟩ := SL.out w hSw
          clear hSw
          go_simp
          try with_reducible rfl
        try simp only [Act.put, List.setIfInBounds_toArray, List.set_cons_zero, List.set_cons_succ]
        refine wpAnyH_take (i := 7) (oi := { dst := some 163, op := Op.move (Operand.tmp 1), type := 26, pos := "outright.go:97", after := #[], guard := none }) (v := ?_) rfl (by kernel_rfl) (by kernel_rfl) (by kernel_rfl) (fun _ _ _ h => h) (Or.inl ⟨by kernel_rfl, ?_⟩) hHeld ?_
        rotate_left
        · intro w hSw
          clear hSw
          go_simp
          try with_reducible rfl
        try simp only [Act.put, List.setIfInBounds_toArray, List.set_cons_zero, List.set_cons_succ]
        refine wpAnyH_take (i := 10) (oi := { dst := some 166, op := Op.move (Operand.tmp 5), type := 22, pos := "outright.go:97", after := #[], guard := none }) (v := ?_) rfl (by kernel_rfl) (by kernel_rfl) (by kernel_rfl) (fun _ _ _ h => h) (Or.inl ⟨by kernel_rfl, ?_⟩) hHeld ?_
        rotate_left
        · intro w hSw
          clear hSw
          go_simp
          try with_reducible rfl
        try simp only [Act.put, List.setIfInBounds_toArray, List.set_cons_zero, List.set_cons_succ]
        refine wpAnyH_take (i := 11) (oi := { dst := some 167, op := Op.move (Operand.tmp 1), type := 26, pos := "outright.go:97", after := #[], guard := none }) (v := ?_) rfl (by kernel_rfl) (by kernel_rfl) (by kernel_rfl) (fun _ _ _ h => h) (Or.inl ⟨by kernel_rfl, ?_⟩) hHeld ?_
        rotate_left
        · intro w hSw
          clear hSw
          go_simp
          try with_reducible rfl
        try simp only [Act.put, List.setIfInBounds_toArray, List.set_cons_zero, List.set_cons_succ]
        refine wpAnyH_take (i := 13) (oi := { dst := some 169, op := Op.load 25 (Operand.tmp 2), type := 25, pos := "outright.go:97", after := #[], guard := none }) (v := ?_) rfl (by kernel_rfl) (by kernel_rfl) (by kernel_rfl) (fun _ _ _ h => h) (Or.inl ⟨by kernel_rfl, ?_⟩) hHeld ?_
        rotate_left
        · intro w hSw
          obtain ⟨hs0, hs1⟩ := SL.out w hSw
          clear hSw
          go_simp
          try with_reducible rfl
        try simp only [Act.put, List.setIfInBounds_toArray, List.set_cons_zero, List.set_cons_succ]
        refine wpAnyH_take (i := 14) (oi := { dst := some 170, op := Op.move (Operand.tmp 5), type := 22, pos := "outright.go:97", after := #[], guard := none }) (v := ?_) rfl (by kernel_rfl) (by kernel_rfl) (by kernel_rfl) (fun _ _ _ h => h) (Or.inl ⟨by kernel_rfl, ?_⟩) hHeld ?_
        rotate_left
        · intro w hSw
          clear hSw
          go_simp
          try with_reducible rfl
        try simp only [Act.put, List.setIfInBounds_toArray, List.set_cons_zero, List.set_cons_succ]
        refine wpAnyH_take (i := 15) (oi := { dst := some 171, op := Op.move (Operand.tmp 1), type := 26, pos := "outright.go:97", after := #[], guard := none }) (v := ?_) rfl (by kernel_rfl) (by kernel_rfl) (by kernel_rfl) (fun _ _ _ h => h) (Or.inl ⟨by kernel_rfl, ?_⟩) hHeld ?_
        rotate_left
        · intro w hSw
          clear hSw
          go_simp
          try with_reducible rfl
        try simp only [Act.put, List.setIfInBounds_toArray, List.set_cons_zero, List.set_cons_succ]
        refine wpAnyH_take (i := 20) (oi := { dst := some 176, op := Op.move (Operand.const (Value.int IntKind.i64 0)), type := 3, pos := "outright.go:97", after := #[], guard := none }) (v := ?_) rfl (by kernel_rfl) (by kernel_rfl) (by kernel_rfl) (fun _ _ _ h => h) (Or.inl ⟨by kernel_rfl, ?_⟩) hHeld ?_
        rotate_left
        · intro w hSw
          clear hSw
          go_simp
          try with_reducible rfl
        try simp only [Act.put, List.setIfInBounds_toArray, List.set_cons_zero, List.set_cons_succ]
        refine wpAnyH_ready (rs := [3]) (by kernel_rfl) (by simp) ?_
        refine AllReadyH.cons (o := { dst := some 159, op := Op.call { callee := Callee.value (Operand.func 44), args := #[Operand.tmp 157, Operand.tmp 158], argTypes := #[22, 26] }, type := 26, pos := "outright.go:97", after := #[{ on := 1, ground := Ground.data }, { on := 2, ground := Ground.data }], guard := none }) rfl (fun K hK => ?_) AllReadyH.nil
        go_simp
        refine (drawn_any p.bounds by_ (.slice ba p.bounds.length bc) (.slice ya by_.length yc) V (B := V.heap.size) ((HBV.out.below (HB2.out.trans (HBV7.out.mono HB2.out.size)) hB).mono (Nat.le_trans hB (Nat.le_trans HB2.out.size HBV7.out.size))) ((HYV.out.below (HB2.out.trans (HBV7.out.mono HB2.out.size)) hB).mono (Nat.le_trans hB (Nat.le_trans HB2.out.size HBV7.out.size))) (Nat.le_refl _) (by have := HFL.out; omega) HUB.out HUY.out).mono ?_
        rintro e1 V1 ⟨vv, x1, rfl, hxl, hx64, hown, hbk⟩
        try rw [HFL.out] at hxl hown
        obtain ⟨s1a, s1c, rfl⟩ := own_form hown
        have HU1 := Lib.hid (And.intro (ownsRow_us hown (by omega) hxl) (And.intro hxl hx64))
        have HBK := Lib.hid hbk
        have hbn := HBV7.out.trans (hbk.mono HBV7.out.size)
        clear hxl hx64 hown hbk
        go_wp2_with fail
        refine hK.out _ _ (hHeld.low HBK.out hzV) (fun hHeld => ?_)
        clear hK K
        try simp only [Act.put, List.setIfInBounds_toArray, List.set_cons_zero, List.set_cons_succ]
        clear HBV7
        have HBV7 := Lib.hid hbn
        have hzV : w.heap.size < V1.heap.size := by have := HBK.out.size; omega
        clear hbn
        refine wpAnyH_ready (rs := [8]) (by kernel_rfl) (by simp) ?_
        refine AllReadyH.cons (o := { dst := some 164, op := Op.call { callee := Callee.value (Operand.func 44), args := #[Operand.tmp 162, Operand.tmp 163], argTypes := #[22, 26] }, type := 26, pos := "outright.go:97", after := #[{ on := 6, ground := Ground.data }, { on := 7, ground := Ground.data }, { on := 3, ground := Ground.chain }], guard := none }) rfl (fun K hK => ?_) AllReadyH.nil
        go_simp
        refine (drawn_any p.bounds by_ (.slice ba p.bounds.length bc) (.slice ya by_.length yc) V1 (B := V1.heap.size) ((HBV.out.below (HB2.out.trans (HBV7.out.mono HB2.out.size)) hB).mono (Nat.le_trans hB (Nat.le_trans HB2.out.size HBV7.out.size))) ((HYV.out.below (HB2.out.trans (HBV7.out.mono HB2.out.size)) hB).mono (Nat.le_trans hB (Nat.le_trans HB2.out.size HBV7.out.size))) (Nat.le_refl _) (by have := HFL.out; omega) HUB.out HUY.out).mono ?_
        rintro e1 V2 ⟨vv, x2, rfl, hxl, hx64, hown, hbk⟩
        try rw [HFL.out] at hxl hown
        obtain ⟨s2a, s2c, rfl⟩ := own_form hown
        have HU2 := Lib.hid (And.intro (ownsRow_us hown (by omega) hxl) (And.intro hxl hx64))
        have HBK := Lib.hid hbk
        have hbn := HBV7.out.trans (hbk.mono HBV7.out.size)
        clear hxl hx64 hown hbk
        go_wp2_with fail
        refine hK.out _ _ (hHeld.low HBK.out hzV) (fun hHeld => ?_)
        clear hK K
        try simp only [Act.put, List.setIfInBounds_toArray, List.set_cons_zero, List.set_cons_succ]
        clear HBV7
        have HBV7 := Lib.hid hbn
        have hzV : w.heap.size < V2.heap.size := by have := HBK.out.size; omega
        clear hbn
        have hcarry := HU1.out
        clear HU1
        have HU1 := Lib.hid (And.intro ((hcarry.1.below HBK.out (Nat.le_refl _)).mono HBK.out.size) hcarry.2)
        clear hcarry
        refine wpAnyH_ready (rs := [9]) (by kernel_rfl) (by simp) ?_
        refine AllReadyH.cons (o := { dst := some 165, op := Op.call { callee := Callee.value (Operand.func 45), args := #[Operand.tmp 160, Operand.tmp 164], argTypes := #[25, 26] }, type := 26, pos := "outright.go:97", after := #[{ on := 4, ground := Ground.data }, { on := 8, ground := Ground.data }, { on := 8, ground := Ground.chain }], guard := none }) rfl (fun K hK => ?_) AllReadyH.nil
        go_simp
        refine (mended_any p HPO.out x2 HU2.out.2.1 HU2.out.2.2 (.slice ba p.bounds.length bc) (.slice ra p.rules.length rc) (.slice s2a p.bounds.length s2c) V2 (B := V2.heap.size) ((HRV.out.below (HB2.out.trans (HBV7.out.mono HB2.out.size)) hB).mono (Nat.le_trans hB (Nat.le_trans HB2.out.size HBV7.out.size))) HU2.out.1 (Nat.le_refl _)).mono ?_
        rintro e1 V3 ⟨vv, x3, rfl, hxl, hx64, hown, hbk⟩
        obtain ⟨s3a, s3c, rfl⟩ := own_form hown
        have HU3 := Lib.hid (And.intro (ownsRow_us hown (by omega) hxl) (And.intro hxl hx64))
        have HBK := Lib.hid hbk
        have hbn := HBV7.out.trans (hbk.mono HBV7.out.size)
        clear hxl hx64 hown hbk
        go_wp2_with fail
        refine hK.out _ _ (hHeld.low HBK.out hzV) (fun hHeld => ?_)
        clear hK K
        try simp only [Act.put, List.setIfInBounds_toArray, List.set_cons_zero, List.set_cons_succ]
        clear HBV7
        have HBV7 := Lib.hid hbn
        have hzV : w.heap.size < V3.heap.size := by have := HBK.out.size; omega
        clear hbn
        have hcarry := HU1.out
        clear HU1
        have HU1 := Lib.hid (And.intro ((hcarry.1.below HBK.out (Nat.le_refl _)).mono HBK.out.size) hcarry.2)
        clear hcarry
        have hcarry := HU2.out
        clear HU2
        have HU2 := Lib.hid (And.intro ((hcarry.1.below HBK.out (Nat.le_refl _)).mono HBK.out.size) hcarry.2)
        clear hcarry
        refine wpAnyH_ready (rs := [12]) (by kernel_rfl) (by simp) ?_
        refine AllReadyH.cons (o := { dst := some 168, op := Op.call { callee := Callee.value (Operand.func 44), args := #[Operand.tmp 166, Operand.tmp 167], argTypes := #[22, 26] }, type := 26, pos := "outright.go:97", after := #[{ on := 10, ground := Ground.data }, { on := 11, ground := Ground.data }, { on := 9, ground := Ground.chain }], guard := none }) rfl (fun K hK => ?_) AllReadyH.nil
        go_simp
        refine (drawn_any fin by_ (.slice xa p.bounds.length xc) (.slice ya by_.length yc) V3 (B := V3.heap.size) ((HPB.out.below HBV7.out (Nat.le_refl _)).mono HBV7.out.size) ((HYV.out.below (HB2.out.trans (HBV7.out.mono HB2.out.size)) hB).mono (Nat.le_trans hB (Nat.le_trans HB2.out.size HBV7.out.size))) (Nat.le_refl _) (by have := HFL.out; omega) HUF.out HUY.out).mono ?_
        rintro e1 V4 ⟨vv, x4, rfl, hxl, hx64, hown, hbk⟩
        try rw [HFL.out] at hxl hown
        obtain ⟨s4a, s4c, rfl⟩ := own_form hown
        have HU4 := Lib.hid (And.intro (ownsRow_us hown (by omega) hxl) (And.intro hxl hx64))
        have HBK := Lib.hid hbk
        have hbn := HBV7.out.trans (hbk.mono HBV7.out.size)
        clear hxl hx64 hown hbk
        go_wp2_with fail
        refine hK.out _ _ (hHeld.low HBK.out hzV) (fun hHeld => ?_)
        clear hK K
        try simp only [Act.put, List.setIfInBounds_toArray, List.set_cons_zero, List.set_cons_succ]
        clear HBV7
        have HBV7 := Lib.hid hbn
        have hzV : w.heap.size < V4.heap.size := by have := HBK.out.size; omega
        clear hbn
        have hcarry := HU1.out
        clear HU1
        have HU1 := Lib.hid (And.intro ((hcarry.1.below HBK.out (Nat.le_refl _)).mono HBK.out.size) hcarry.2)
        clear hcarry
        have hcarry := HU2.out
        clear HU2
        have HU2 := Lib.hid (And.intro ((hcarry.1.below HBK.out (Nat.le_refl _)).mono HBK.out.size) hcarry.2)
        clear hcarry
        have hcarry := HU3.out
        clear HU3
        have HU3 := Lib.hid (And.intro ((hcarry.1.below HBK.out (Nat.le_refl _)).mono HBK.out.size) hcarry.2)
        clear hcarry
        refine wpAnyH_ready (rs := [16]) (by kernel_rfl) (by simp) ?_
        refine AllReadyH.cons (o := { dst := some 172, op := Op.call { callee := Callee.value (Operand.func 44), args := #[Operand.tmp 170, Operand.tmp 171], argTypes := #[22, 26] }, type := 26, pos := "outright.go:97", after := #[{ on := 14, ground := Ground.data }, { on := 15, ground := Ground.data }, { on := 12, ground := Ground.chain }], guard := none }) rfl (fun K hK => ?_) AllReadyH.nil
        go_simp
        refine (drawn_any fin by_ (.slice xa p.bounds.length xc) (.slice ya by_.length yc) V4 (B := V4.heap.size) ((HPB.out.below HBV7.out (Nat.le_refl _)).mono HBV7.out.size) ((HYV.out.below (HB2.out.trans (HBV7.out.mono HB2.out.size)) hB).mono (Nat.le_trans hB (Nat.le_trans HB2.out.size HBV7.out.size))) (Nat.le_refl _) (by have := HFL.out; omega) HUF.out HUY.out).mono ?_
        rintro e1 V5 ⟨vv, x5, rfl, hxl, hx64, hown, hbk⟩
        try rw [HFL.out] at hxl hown
        obtain ⟨s5a, s5c, rfl⟩ := own_form hown
        have HU5 := Lib.hid (And.intro (ownsRow_us hown (by omega) hxl) (And.intro hxl hx64))
        have HBK := Lib.hid hbk
        have hbn := HBV7.out.trans (hbk.mono HBV7.out.size)
        clear hxl hx64 hown hbk
        go_wp2_with fail
        refine hK.out _ _ (hHeld.low HBK.out hzV) (fun hHeld => ?_)
        clear hK K
        try simp only [Act.put, List.setIfInBounds_toArray, List.set_cons_zero, List.set_cons_succ]
        clear HBV7
        have HBV7 := Lib.hid hbn
        have hzV : w.heap.size < V5.heap.size := by have := HBK.out.size; omega
        clear hbn
        have hcarry := HU1.out
        clear HU1
        have HU1 := Lib.hid (And.intro ((hcarry.1.below HBK.out (Nat.le_refl _)).mono HBK.out.size) hcarry.2)
        clear hcarry
        have hcarry := HU2.out
        clear HU2
        have HU2 := Lib.hid (And.intro ((hcarry.1.below HBK.out (Nat.le_refl _)).mono HBK.out.size) hcarry.2)
        clear hcarry
        have hcarry := HU3.out
        clear HU3
        have HU3 := Lib.hid (And.intro ((hcarry.1.below HBK.out (Nat.le_refl _)).mono HBK.out.size) hcarry.2)
        clear hcarry
        have hcarry := HU4.out
        clear HU4
        have HU4 := Lib.hid (And.intro ((hcarry.1.below HBK.out (Nat.le_refl _)).mono HBK.out.size) hcarry.2)
        clear hcarry
        refine wpAnyH_ready (rs := [17]) (by kernel_rfl) (by simp) ?_
        refine AllReadyH.cons (o := { dst := some 173, op := Op.call { callee := Callee.value (Operand.func 45), args := #[Operand.tmp 169, Operand.tmp 172], argTypes := #[25, 26] }, type := 26, pos := "outright.go:97", after := #[{ on := 13, ground := Ground.data }, { on := 16, ground := Ground.data }, { on := 16, ground := Ground.chain }], guard := none }) rfl (fun K hK => ?_) AllReadyH.nil
        go_simp
        refine (mended_any p HPO.out x5 HU5.out.2.1 HU5.out.2.2 (.slice ba p.bounds.length bc) (.slice ra p.rules.length rc) (.slice s5a p.bounds.length s5c) V5 (B := V5.heap.size) ((HRV.out.below (HB2.out.trans (HBV7.out.mono HB2.out.size)) hB).mono (Nat.le_trans hB (Nat.le_trans HB2.out.size HBV7.out.size))) HU5.out.1 (Nat.le_refl _)).mono ?_
        rintro e1 V6 ⟨vv, x6, rfl, hxl, hx64, hown, hbk⟩
        obtain ⟨s6a, s6c, rfl⟩ := own_form hown
        have HU6 := Lib.hid (And.intro (ownsRow_us hown (by omega) hxl) (And.intro hxl hx64))
        have HBK := Lib.hid hbk
        have hbn := HBV7.out.trans (hbk.mono HBV7.out.size)
        clear hxl hx64 hown hbk
        go_wp2_with fail
        refine hK.out _ _ (hHeld.low HBK.out hzV) (fun hHeld => ?_)
        clear hK K
        try simp only [Act.put, List.setIfInBounds_toArray, List.set_cons_zero, List.set_cons_succ]
        clear HBV7
        have HBV7 := Lib.hid hbn
        have hzV : w.heap.size < V6.heap.size := by have := HBK.out.size; omega
        clear hbn
        have hcarry := HU1.out
        clear HU1
        have HU1 := Lib.hid (And.intro ((hcarry.1.below HBK.out (Nat.le_refl _)).mono HBK.out.size) hcarry.2)
        clear hcarry
        have hcarry := HU3.out
        clear HU3
        have HU3 := Lib.hid (And.intro ((hcarry.1.below HBK.out (Nat.le_refl _)).mono HBK.out.size) hcarry.2)
        clear hcarry
        have hcarry := HU4.out
        clear HU4
        have HU4 := Lib.hid (And.intro ((hcarry.1.below HBK.out (Nat.le_refl _)).mono HBK.out.size) hcarry.2)
        clear hcarry
        refine wpAnyH_ready (rs := [18]) (by kernel_rfl) (by simp) ?_
        refine AllReadyH.cons (o := { dst := some 174, op := Op.buildSlice 43 4 #[(0, Operand.tmp 159), (1, Operand.tmp 165), (2, Operand.tmp 168), (3, Operand.tmp 173)], type := 43, pos := "outright.go:97", after := #[{ on := 3, ground := Ground.data }, { on := 9, ground := Ground.data }, { on := 12, ground := Ground.data }, { on := 17, ground := Ground.data }], guard := none }) rfl (fun K hK => ?_) AllReadyH.nil
        go_simp
        refine hK.out _ _ (hHeld.low (Below.new1 _ _) hzV) (fun hHeld => ?_)
        clear hK K
        try simp only [Act.put, List.setIfInBounds_toArray, List.set_cons_zero, List.set_cons_succ]
        have HBK := Lib.hid (Below.new1 V6 (.cells #[.slice s1a p.bounds.length s1c, .slice s3a p.bounds.length s3c, .slice s4a p.bounds.length s4c, .slice s6a p.bounds.length s6c] 26))
        have hcarry := HU1.out
        clear HU1
        have HU1 := Lib.hid (And.intro ((hcarry.1.below HBK.out (Nat.le_refl _)).mono HBK.out.size) hcarry.2)
        clear hcarry
        have hcarry := HU3.out
        clear HU3
        have HU3 := Lib.hid (And.intro ((hcarry.1.below HBK.out (Nat.le_refl _)).mono HBK.out.size) hcarry.2)
        clear hcarry
        have hcarry := HU4.out
        clear HU4
        have HU4 := Lib.hid (And.intro ((hcarry.1.below HBK.out (Nat.le_refl _)).mono HBK.out.size) hcarry.2)
        clear hcarry
        have hcarry := HU6.out
        clear HU6
        have HU6 := Lib.hid (And.intro ((hcarry.1.below HBK.out (Nat.le_refl _)).mono HBK.out.size) hcarry.2)
        clear hcarry
        have hbn := HBV7.out.trans (HBK.out.mono HBV7.out.size)
        refine abs_anyHS (fun Z => Z.heap[V6.heap.size]? = some (.cells #[.slice s1a p.bounds.length s1c, .slice s3a p.bounds.length s3c, .slice s4a p.bounds.length s4c, .slice s6a p.bounds.length s6c] 26 (0, 0)) ∧ Below w2.heap.size w2 Z ∧ Us Z Z.heap.size (.slice s1a p.bounds.length s1c) x1 ∧ Us Z Z.heap.size (.slice s3a p.bounds.length s3c) x3 ∧ Us Z Z.heap.size (.slice s4a p.bounds.length s4c) x4 ∧ Us Z Z.heap.size (.slice s6a p.bounds.length s6c) x6) ⟨heap_new0 _ _, hbn, HU1.out.1, HU3.out.1, HU4.out.1, HU6.out.1⟩ hHeld ?_
        have HX1 := Lib.hid HU1.out.2; have HX3 := Lib.hid HU3.out.2; have HX4 := Lib.hid HU4.out.2; have HX6 := Lib.hid HU6.out.2
        clear hHeld hbn HU1 HU2 HU3 HU4 HU5 HU6 HBK HBV7
        rintro V7 ⟨k7, hb27, hu1, hu3, hu4, hu6⟩ hHeld
        refine wpAnyH_take (i := 19) (oi := { dst := some 175, op := Op.call { callee := Callee.builtin Builtin.len, args := #[Operand.tmp 174], argTypes := #[43] }, type := 3, pos := "outright.go:97", after := #[{ on := 18, ground := Ground.data }], guard := none }) (v := ?_) rfl (by kernel_rfl) (by kernel_rfl) (by kernel_rfl) (fun _ _ _ h => h) (Or.inl ⟨by kernel_rfl, ?_⟩) hHeld ?_
        rotate_left
        · intro w hSw
          clear hSw
          go_simp
          try with_reducible rfl
        try simp only [Act.put, List.setIfInBounds_toArray, List.set_cons_zero, List.set_cons_succ]
        refine wpAnyH_done (by kernel_rfl) ?_ _
        have KV := Lib.hid k7
        have HB27 := Lib.hid hb27
        have HS4 : Hid (∀ k, k < 4 → ∃ x sa sc, V7.cell? ⟨V6.heap.size, k, none⟩ = some (.slice sa p.bounds.length sc) ∧ Us V7 V7.heap.size (.slice sa p.bounds.length sc) x ∧ x.length = p.bounds.length ∧ All64 x) := Lib.hid fun k hk => by
          match k, hk with
          | 0, _ => exact ⟨x1, s1a, s1c, by rw [cell_of_row _ _ _ _ _ _ k7]; rfl, hu1, HX1.out⟩
          | 1, _ => exact ⟨x3, s3a, s3c, by rw [cell_of_row _ _ _ _ _ _ k7]; rfl, hu3, HX3.out⟩
          | 2, _ => exact ⟨x4, s4a, s4c, by rw [cell_of_row _ _ _ _ _ _ k7]; rfl, hu4, HX4.out⟩
          | 3, _ => exact ⟨x6, s6a, s6c, by rw [cell_of_row _ _ _ _ _ _ k7]; rfl, hu6, HX6.out⟩
        clear hHeld k7 hb27 hu1 hu3 hu4 hu6 HX1 HX3 HX4 HX6
        repeat (clear HBK)
        repeat (clear hzV)
        have zV7 : V6.heap.size < V7.heap.size := (Array.getElem?_eq_some_iff.1 KV.out).1
        have HPBV := Lib.hid ((HPB.out.below HB27.out (Nat.le_refl _)).mono HB27.out.size)
        have HPLV := Lib.hid ((HPL.out.below HB27.out (Nat.le_refl _)).mono HB27.out.size)
        have KPV := Lib.hid (heap_later K2.out HB27.out z2)
        have HB0V := Lib.hid (HB2.out.trans (HB27.out.mono HB2.out.size))
        have z2V := HB27.out.size
        clear HB27 HB7V HPB7 HPL7 K7 HH SL
        go_wp2_with fail
        go_loopw [176] (fun iv wr => ∃ k : Nat, k ≤ 4 ∧ iv = .int .i64 k ∧ Below V7.heap.size V7 wr) (fun iv _ => 4 - (intOf iv).toNat)
        case atStart => exact ⟨0, Nat.zero_le _, rfl, Below.refl _ _⟩
        case round =>
          obtain ⟨k, hk, rfl, hb⟩ := hrel
          have HB := Lib.hid hb
          by_cases hlt : k < 4
          · obtain ⟨x, sa, sc, hcell, hus, hxl, hx64⟩ := HS4.out k hlt
            have q : wr.cell? ⟨V6.heap.size, k, none⟩ = some (.slice sa p.bounds.length sc) := (hb.cell (p := ⟨V6.heap.size, k, none⟩) zV7).trans hcell
            have HUS := Lib.hid hus; have HXL := Lib.hid hxl; have HX64 := Lib.hid hx64
            clear hcell hus hxl hx64 hb
            obtain ⟨wo, rfl⟩ : ∃ wo : World, wo = wr := ⟨_, rfl⟩
            go_upto_region 22 with fail
            refine abs_wp (fun Z => Z.heap[wo.heap.size]? = some (.cells #[.slice sa p.bounds.length sc] 26 (0, 0)) ∧ Below wo.heap.size wo Z) ⟨heap_new0 _ _, Below.new1 _ _⟩ ?_
            clear q
            rintro W ⟨ks, hbs⟩
            have KS := Lib.hid ks
            have HBW := Lib.hid (HB.out.trans (hbs.mono HB.out.size))
            have zs : wo.heap.size < W.heap.size := (Array.getElem?_eq_some_iff.1 ks).1
            clear hbs
            have d0 : W.cell? ⟨wo.heap.size, 0, none⟩ = some (.slice sa p.bounds.length sc) := by rw [cell_of_row _ _ _ _ _ _ ks]; rfl
            have KPW := Lib.hid (heap_later KPV.out HBW.out (by omega))
            have HB0W := Lib.hid (HB0V.out.trans (HBW.out.mono HB0V.out.size))
            have zW := HBW.out.size
            have zW2 := HB0W.out.size
            clear ks
            have c0 : W.cell? ⟨w.heap.size, 0, none⟩ = some (.slice ba p.bounds.length bc) := by rw [cell_of_row _ _ _ _ _ _ KPW.out]; rfl
            have c1 : W.cell? ⟨w.heap.size, 1, none⟩ = some (.slice ra p.rules.length rc) := by rw [cell_of_row _ _ _ _ _ _ KPW.out]; rfl
            have hsv := solves_any p x _ _ (.slice sa p.bounds.length sc) W ((HBV.out.below HB0W.out hB).mono (Nat.le_trans hB zW2)) ((HRV.out.below HB0W.out hB).mono (Nat.le_trans hB zW2)) ((HUS.out.below HBW.out (Nat.le_refl _)).mono zW) (Nat.le_refl _) HUB.out HX64.out (HT.out.below HB0W.out hw0) (by omega)
            have HSV := Lib.hid hsv
            clear hsv
            go_wp2_with fail
            refine HSV.out.mono ?_
            rintro e w8 ⟨rfl, hb8⟩
            have HB8 := Lib.hid (HBW.out.trans (hb8.mono zW))
            have KS8 := Lib.hid (heap_later KS.out hb8 zs)
            have zs8 : wo.heap.size < w8.heap.size := by have := hb8.size; omega
            clear hb8 c0 c1 d0 HSV KS KPW HB0W zs HBW
            cases hsol : solvesB p x
            case false =>
              clear hsol
              go_wp2_with fail
              go_roundw
              case rel => exact ⟨k + 1, by omega, by go_num, HB8.out⟩
              case measure => simp [intOf]; omega
            case true =>
              have hss := sound_sol hsol
              rw [← HFS.out, ← HN.out, ← HFIN.out] at hss
              obtain ⟨hn1', hbt, hall⟩ := hss
              have hna : (List.range fs.length).any (notSaid fs x) = false := by
                rw [List.any_eq_false]
                intro k' hk'
                rw [hall k' (List.mem_range.1 hk')]; decide
              have z8 := HB8.out.size
              have d0 : w8.cell? ⟨wo.heap.size, 0, none⟩ = some (.slice sa p.bounds.length sc) := by rw [cell_of_row _ _ _ _ _ _ KS8.out]; rfl
              have HBT := Lib.hid (between_any fin x (.slice xa p.bounds.length xc) (.slice sa p.bounds.length sc) w8 ((HPBV.out.below HB8.out (Nat.le_refl _)).mono z8) ((HUS.out.below HB8.out (Nat.le_refl _)).mono z8) (Nat.le_refl _) (by have := HFL.out; have := HXL.out; omega) HUF.out HX64.out)
              rw [hbt] at HBT
              have HNA := Lib.hid hna
              have hneg : ¬ (0 : Int) ≤ n := by omega
              clear hsol hbt hall hna hpc hn1'
              go_wp2_with fail
              refine HBT.out.mono ?_
              rintro e w9 ⟨rfl, hb9⟩
              have HB9 := Lib.hid (HB8.out.trans (hb9.mono z8))
              have KS9 := Lib.hid (heap_later KS8.out hb9 zs8)
              have z9 := HB9.out.size
              have HNS := Lib.hid (notSaid_any fs x (.slice la fs.length lc) (.slice sa p.bounds.length sc) wo.heap.size w9 ((HPLV.out.below HB9.out (Nat.le_refl _)).mono z9) ((HUS.out.below HB9.out (Nat.le_refl _)).mono z9) (Nat.le_refl _) (by rw [HXL.out]; exact HSA.out.fit) HX64.out KS9.out)
              rw [HNA.out] at HNS
              clear hb9 d0 HBT
              go_wp2_with fail
              refine HNS.out.mono ?_
              rintro e w10 ⟨rfl, hb10⟩
              have HB10 := Lib.hid (HB9.out.trans (hb10.mono z9))
              clear hb10 HNS KS8 KS9 HB9 HB8
              go_wp2_with fail
              go_roundw
              case rel => exact ⟨k + 1, by omega, by go_num, HB10.out⟩
              case measure => simp [intOf]; omega
          · have hk4 : k = 4 := by omega
            subst hk4
            have KPE := Lib.hid (heap_later KPV.out hb (by omega))
            have HB0E := Lib.hid (HB0V.out.trans (hb.mono HB0V.out.size))
            have zE := hb.size
            have zE0 := HB0E.out.size
            clear hb HS4
            rcases hpc with hn1' | ⟨j, hnj, hjr⟩
            · have hneg : ¬ (0 : Int) ≤ n := by omega
              have HN1 := Lib.hid hn1'
              clear hn1'
              have c0 : wr.cell? ⟨w.heap.size, 0, none⟩ = some (.slice ba p.bounds.length bc) := by rw [cell_of_row _ _ _ _ _ _ KPE.out]; rfl
              have c1 : wr.cell? ⟨w.heap.size, 1, none⟩ = some (.slice ra p.rules.length rc) := by rw [cell_of_row _ _ _ _ _ _ KPE.out]; rfl
              obtain ⟨wo, rfl⟩ : ∃ wo : World, wo = wr := ⟨_, rfl⟩
              go_upto_region 29 with fail
              refine abs_wp (fun Z => Z.heap[wo.heap.size]? = some (.cells #[.slice xa p.bounds.length xc, .slice ra p.rules.length rc] 25 (0, 0)) ∧ Below wo.heap.size wo Z) ⟨heap_new0 _ _, Below.new1 _ _⟩ ?_
              clear c0 c1
              rintro Q ⟨kq, hbq⟩
              have KQ := Lib.hid kq
              have zq : wo.heap.size < Q.heap.size := (Array.getElem?_eq_some_iff.1 kq).1
              have HBQ := Lib.hid (HB.out.trans (hbq.mono zE))
              have KPQ := Lib.hid (heap_later KPE.out hbq (by omega))
              have HB0Q := Lib.hid (HB0E.out.trans (hbq.mono zE0))
              have zQ0 := HB0Q.out.size
              have zQ := HBQ.out.size
              have HPBQ := Lib.hid ((HPBV.out.below HBQ.out (Nat.le_refl _)).mono zQ)
              have HRVQ := Lib.hid ((HRV.out.below HB0Q.out hB).mono (Nat.le_trans hB zQ0))
              have HTQ := Lib.hid (HT.out.below HB0Q.out hw0)
              obtain ⟨_, a', c', hae, _, _, hrow⟩ := HPBQ.out
              injection hae with h1 h2 h3
              subst h1; subst h3
              obtain ⟨fb, fo, rfl, hfb, hfc⟩ := hrow (by omega)
              have HFC : Hid (∀ v, v < p.bounds.length → Q.cell? ⟨fb, fo + v * 2, none⟩ = some (.int .u64 ((bget fin v).inn : Nat)) ∧ Q.cell? ⟨fb, fo + v * 2 + 1, none⟩ = some (.int .u64 ((bget fin v).can : Nat))) := Lib.hid fun v hv => ⟨by rw [hfc _ (by omega), bcellAt_inn], by rw [← bcellAt_can]; exact hfc (v * 2 + 1) (by omega)⟩
              clear kq hbq KPE HB0E HB zE zE0 hfc hrow h2
              have c0 : Q.cell? ⟨w.heap.size, 0, none⟩ = some (.slice ba p.bounds.length bc) := by rw [cell_of_row _ _ _ _ _ _ KPQ.out]; rfl
              have c1 : Q.cell? ⟨w.heap.size, 1, none⟩ = some (.slice ra p.rules.length rc) := by rw [cell_of_row _ _ _ _ _ _ KPQ.out]; rfl
              go_wp2_with fail
              clear c0 c1
              go_loopw [208] (fun iv wr => ∃ j : Nat, j ≤ p.rules.length ∧ iv = .int .i64 j ∧ Below Q.heap.size Q wr) (fun iv _ => p.rules.length - (intOf iv).toNat)
              case atStart => exact ⟨0, Nat.zero_le _, rfl, Below.refl _ _⟩
              case round =>
                obtain ⟨j, hj, rfl, hb⟩ := hrel
                by_cases hjl : j < p.rules.length
                · obtain ⟨rb, ro, vv, hra, hrb, hvv, q0, q1, q2, q3⟩ := (HRVQ.out.below hb (Nat.le_refl _)).cells hjl
                  subst hra
                  have zr : rb < wr.heap.size := by have := hb.size; omega
                  obtain ⟨va, vc, rfl⟩ := hvv.slice
                  have HVV := Lib.hid (hvv.mono hb.size)
                  obtain ⟨r, hr⟩ : ∃ r, r = rget p.rules j := ⟨_, rfl⟩
                  have hrg := probOk_range HPO.out j hjl
                  rw [← hr] at q0 q1 q2 q3 HVV hrg
                  have HB := Lib.hid hb; have HR := Lib.hid hr; have HRG := Lib.hid hrg
                  clear hr hvv hrb hb hrg
                  obtain ⟨wp, rfl⟩ : ∃ wp : World, wp = wr := ⟨_, rfl⟩
                  go_upto_region 32 with fail
                  refine abs_wp (fun Z => Z.heap[wp.heap.size]? = some (.cells #[.int .i64 r.kind, .slice va r.vars.length vc, .int .i64 r.low, .int .i64 r.high] 63 (0, 0)) ∧ Below wp.heap.size wp Z) ⟨heap_new0 _ _, Below.new1 _ _⟩ ?_
                  clear q0 q1 q2 q3 zr
                  rintro R ⟨kr, hbr⟩
                  have r1 : R.cell? ⟨wp.heap.size, 1, none⟩ = some (.slice va r.vars.length vc) := by rw [cell_of_row _ _ _ _ _ _ kr]; rfl
                  have zr : wp.heap.size < R.heap.size := (Array.getElem?_eq_some_iff.1 kr).1
                  have HBR := Lib.hid (HB.out.trans (hbr.mono HB.out.size))
                  have zR := HBR.out.size
                  have HVR := Lib.hid ((HVV.out.below hbr (Nat.le_refl _)).mono hbr.size)
                  clear kr hbr HVV HB
                  go_wp2_with fail
                  clear r1
                  go_loopw [216] (fun iv wr => ∃ i : Nat, i ≤ r.vars.length ∧ iv = .int .i64 i ∧ Below R.heap.size R wr) (fun iv _ => r.vars.length - (intOf iv).toNat)
                  case atStart => exact ⟨0, Nat.zero_le _, rfl, Below.refl _ _⟩
                  case round =>
                    obtain ⟨i, hi, rfl, hb⟩ := hrel
                    by_cases hil : i < r.vars.length
                    · obtain ⟨_, a', c', hae, _, _, hrow⟩ := HVR.out.below hb (Nat.le_refl _)
                      cases hae
                      obtain ⟨vb, vo, rfl, hvb, hvc⟩ := hrow (by omega)
                      have hri := HRG.out i hil
                      obtain ⟨v, hv⟩ : ∃ v : Nat, iget r.vars i = v := ⟨(iget r.vars i).toNat, by omega⟩
                      have q : wr.cell? ⟨vb, vo + i, none⟩ = some (.int .i64 (v : Int)) := by have h := hvc i (by omega); dsimp only at h; rw [hv] at h; exact h
                      have hvl : v < p.bounds.length := by omega
                      have hmem : (v : Int) ∈ (rget p.rules j).vars := by rw [← hv, ← HR.out]; unfold iget; rw [List.getElem?_eq_getElem hil]; exact List.getElem_mem hil
                      have HV := Lib.hid hmem; have HB := Lib.hid hb
                      have zv : vb < wr.heap.size := by have := hb.size; omega
                      clear hvc hrow hv hb hmem hri
                      go_wp2_with fail
                      clear q zv
                      go_loopw [220] (fun ev wr => ∃ e : Nat, e ≤ 12 ∧ ev = .int .i64 e ∧ Below R.heap.size R wr) (fun ev _ => 12 - (intOf ev).toNat)
                      case atStart => exact ⟨0, Nat.zero_le _, rfl, HB.out⟩
                      case round =>
                        clear HB
                        obtain ⟨e, he, rfl, hb⟩ := hrel
                        by_cases he12 : e < 12
                        · have hbq := HBR.out.trans (hb.mono zR)
                          have zb := hbq.size
                          have HB := Lib.hid hbq
                          have HBr := Lib.hid hb
                          have hse := sound_end HPO.out (HN.out.symm.trans HN1.out) hjl HV.out he12
                          rw [← HFIN.out] at hse
                          obtain ⟨-, hok, hin, hout⟩ := hse
                          have F1 := asksFollows_any ⟨fin, p.rules⟩ ⟨v, e, true, j, []⟩ (.slice (some ⟨fb, fo, none⟩) p.bounds.length xc) (.slice (some ⟨rb, ro, none⟩) p.rules.length rc) (.slice none 0 0) wr ((HPBQ.out.below hbq (Nat.le_refl _)).mono zb) ((HRVQ.out.below hbq (Nat.le_refl _)).mono zb) (Ints.nil _ _) (Nat.le_refl _) HUF.out (HTQ.out.below hbq (by omega)) (by omega)
                          rw [hok true, hin] at F1
                          have F2 : Hid (∀ (Z : World), Below wr.heap.size wr Z → Gives Tryd.prog 30 #[.agg #[.slice (some ⟨fb, fo, none⟩) p.bounds.length xc, .slice (some ⟨rb, ro, none⟩) p.rules.length rc], .agg #[.int .i64 (v : Int), .int .i64 (e : Int), .bool false, .int .i64 (j : Int), .slice none 0 0]] Z (.tuple #[.bool (!bitB (bget fin v).can e), .int .i64 0])) := Lib.hid fun Z hZ => by
                            have hbz := hbq.trans (hZ.mono zb)
                            have zz := hbz.size
                            have F := asksFollows_any ⟨fin, p.rules⟩ ⟨v, e, false, j, []⟩ (.slice (some ⟨fb, fo, none⟩) p.bounds.length xc) (.slice (some ⟨rb, ro, none⟩) p.rules.length rc) (.slice none 0 0) Z ((HPBQ.out.below hbz (Nat.le_refl _)).mono zz) ((HRVQ.out.below hbz (Nat.le_refl _)).mono zz) (Ints.nil _ _) (Nat.le_refl _) HUF.out (HTQ.out.below hbz (by omega)) (by omega)
                            rw [hok false, hout] at F
                            exact F
                          have F1' : Hid (Gives Tryd.prog 30 #[.agg #[.slice (some ⟨fb, fo, none⟩) p.bounds.length xc, .slice (some ⟨rb, ro, none⟩) p.rules.length rc], .agg #[.int .i64 (v : Int), .int .i64 (e : Int), .bool true, .int .i64 (j : Int), .slice none 0 0]] wr (.tuple #[.bool (bitB (bget fin v).inn e), .int .i64 0])) := Lib.hid F1
                          have kq := heap_later KQ.out hbq zq
                          have c0 : wr.cell? ⟨wo.heap.size, 0, none⟩ = some (.slice (some ⟨fb, fo, none⟩) p.bounds.length xc) := by rw [cell_of_row _ _ _ _ _ _ kq]; rfl
                          have c1 : wr.cell? ⟨wo.heap.size, 1, none⟩ = some (.slice (some ⟨rb, ro, none⟩) p.rules.length rc) := by rw [cell_of_row _ _ _ _ _ _ kq]; rfl
                          clear hok hin hout F1 kq hb hbq
                          go_wp2_with fail
                          refine F1'.out.mono ?_
                          rintro e1 w11 ⟨rfl, hb11⟩
                          have HB11 := Lib.hid (HB.out.trans (hb11.mono zb))
                          have HBr11 := Lib.hid (HBr.out.trans (hb11.mono HBr.out.size))
                          have F3 := Lib.hid (F2.out w11 hb11)
                          have z11 := HB11.out.size
                          have kq := heap_later KQ.out HB11.out zq
                          clear F1' F2 c0 c1 hb11 HB HBr
                          have c0 : w11.cell? ⟨wo.heap.size, 0, none⟩ = some (.slice (some ⟨fb, fo, none⟩) p.bounds.length xc) := by rw [cell_of_row _ _ _ _ _ _ kq]; rfl
                          have c1 : w11.cell? ⟨wo.heap.size, 1, none⟩ = some (.slice (some ⟨rb, ro, none⟩) p.rules.length rc) := by rw [cell_of_row _ _ _ _ _ _ kq]; rfl
                          clear kq
                          go_wp2_with fail
                          refine F3.out.mono ?_
                          rintro e1 w12 ⟨rfl, hb12⟩
                          have HB12 := Lib.hid (HB11.out.trans (hb12.mono z11))
                          have HBr12 := Lib.hid (HBr11.out.trans (hb12.mono HBr11.out.size))
                          clear F3 c0 c1 hb12 HB11 HBr11
                          obtain ⟨q0, q1⟩ := HFC.out v hvl
                          have x0 := (HB12.out.cell (p := ⟨fb, fo + v * 2, none⟩) hfb).trans q0
                          have x1 := (HB12.out.cell (p := ⟨fb, fo + v * 2 + 1, none⟩) hfb).trans q1
                          have z12 : fb < w12.heap.size := by have := HB12.out.size; omega
                          have hu1 := (HUF.out.get v).1
                          have hu2 := (HUF.out.get v).2
                          obtain ⟨b1, hb1⟩ : ∃ b1, b1 = bitB (bget fin v).inn e := ⟨_, rfl⟩
                          obtain ⟨b2, hb2⟩ : ∃ b2, b2 = bitB (bget fin v).can e := ⟨_, rfl⟩
                          rw [← hb1, ← hb2]
                          have H1 := Lib.hid (has_any (bget fin v).inn e w12 hu1 he12)
                          have H2 := Lib.hid (has_any (bget fin v).can e w12 hu2 he12)
                          rw [← hb1] at H1
                          rw [← hb2] at H2
                          clear q0 q1 hb1 hb2
                          go_wp2_with fail
                          refine H1.out.mono ?_
                          rintro e1 w13 ⟨rfl, rfl⟩
                          cases b1 <;> cases b2
                          all_goals
                            go_wp2_with fail
                            refine H2.out.mono ?_
                            rintro e1 w14 ⟨rfl, rfl⟩
                            go_wp2
                            go_roundw
                            case rel => exact ⟨e + 1, by omega, by go_num, HBr12.out⟩
                            case measure => simp [intOf]; omega
                        · have HB := Lib.hid hb
                          clear hb
                          go_wp2_with fail
                          go_roundw
                          case rel => exact ⟨i + 1, by omega, by go_num, HB.out⟩
                          case measure => simp [intOf]; omega
                    · have HB := Lib.hid (HBR.out.trans (hb.mono zR))
                      clear hb
                      go_wp2_with fail
                      go_roundw
                      case rel => exact ⟨j + 1, by omega, by go_num, HB.out⟩
                      case measure => simp [intOf]; omega
                · have HBE := Lib.hid (HB0Q.out.trans (hb.mono zQ0))
                  clear hb
                  go_wp2_with fail
                  refine (works_any _ (HT.out.below HBE.out hw0) (by have := HBE.out.size; omega)).mono ?_
                  rintro e1 w9 ⟨rfl, hb9⟩
                  have HF := Lib.hid (HBE.out.trans (hb9.mono HBE.out.size))
                  clear hb9
                  go_wp2
                  go_ret
                  exact ⟨rfl, HF.out⟩
            · subst hnj
              have hz : (0 : Int) ≤ (j : Int) := by omega
              go_wp2_with fail
              refine (works_any _ (HT.out.below HB0E.out hw0) (by have := HB0E.out.size; omega)).mono ?_
              rintro e1 w9 ⟨rfl, hb9⟩
              have HF := Lib.hid (HB0E.out.trans (hb9.mono HB0E.out.size))
              clear hb9
              go_wp2
              go_ret
              exact ⟨rfl, HF.out⟩
end Go.Proofs.YtilbbnjfaoldoaaDoor
