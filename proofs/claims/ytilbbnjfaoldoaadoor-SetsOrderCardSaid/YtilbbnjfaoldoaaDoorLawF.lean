/- The law SetsReasons, walked. -/
import Derived.Test.YtilbbnjfaoldoaaDoorPlainI
import Derived.Test.YtilbbnjfaoldoaaDoorLawB
namespace Go.Proofs.YtilbbnjfaoldoaaDoor
open Go Go.RowKit
attribute [local go_sem] cell_grow u64_sAnd u64_sOr u64_sDiff sDiff_all zeqI zneI sAnd_bit_zero sAnd_bit_zeroN sAnd_bit_nonzero rowOf_grow rowOk_grow rowOf_alloc rowOk_alloc

set_option maxRecDepth 100000 in
set_option maxHeartbeats 1000000 in
theorem fine_any (p : Prob) (bv rv : Value) (w : World) {B : Nat} (hbv : Bnds w B bv p.bounds) (hrv : Rls w B rv p.rules) (hB : B ≤ w.heap.size) (hub : U64s p.bounds) :
    Gives Tryd.prog 41 #[.agg #[bv, rv]] w (.bool (smallOk p && probOk p)) := by
  unfold Gives
  have HBV := Lib.hid hbv; have HRV := Lib.hid hrv; have HUB := Lib.hid hub
  obtain ⟨ba, bc, rfl⟩ := hbv.slice
  obtain ⟨ra, rc, rfl⟩ := hrv.slice
  clear hbv hrv hub
  have K0 := Lib.hid (heap_new0 w (.cells #[.slice ba p.bounds.length bc, .slice ra p.rules.length rc] 25)); have HB0 := Lib.hid (Below.new1 w (.cells #[.slice ba p.bounds.length bc, .slice ra p.rules.length rc] 25))
  go_enter Tryd.func41, Tryd.ntmps41
  go_wp2_with fail
  refine (small_any p _ _ _ (HBV.out.below HB0.out hB) (HRV.out.below HB0.out hB) (by simp; omega)).mono ?_
  rintro e w1 ⟨rfl, hb1⟩
  have HB1 := Lib.hid (HB0.out.trans (hb1.mono (by simp))); have K1 := Lib.hid (heap_later K0.out hb1 (by simp))
  clear hb1 K0 HB0
  have z1 : w.heap.size < w1.heap.size := (Array.getElem?_eq_some_iff.1 K1.out).1
  cases hsm : smallOk p
  case false =>
    have HSM := Lib.hid hsm
    clear hsm
    go_wp2
    go_ret
    exact ⟨by rw [HSM.out]; rfl, HB1.out⟩
  case true =>
    have HSM := Lib.hid hsm
    clear hsm
    have c0 : w1.cell? ⟨w.heap.size, 0, none⟩ = some (.slice ba p.bounds.length bc) := by rw [cell_of_row _ _ _ _ _ _ K1.out]; rfl
    have c1 : w1.cell? ⟨w.heap.size, 1, none⟩ = some (.slice ra p.rules.length rc) := by rw [cell_of_row _ _ _ _ _ _ K1.out]; rfl
    go_wp2_with fail
    refine (refProb_any p _ _ _ (HBV.out.below HB1.out hB) (HRV.out.below HB1.out hB) (by omega) HUB.out).mono ?_
    rintro e w2 ⟨rfl, hb2⟩
    have HB2 := Lib.hid (HB1.out.trans (hb2.mono HB1.out.size))
    clear hb2 c0 c1
    go_wp2
    go_ret
    exact ⟨by rw [HSM.out]; rfl, HB2.out⟩
/-- The cells of a problem's block. -/
def HeldP (b : Nat) (bv rv : Value) (Z : World) : Prop := Z.cell? ⟨b, 0, none⟩ = some bv ∧ Z.cell? ⟨b, 1, none⟩ = some rv
theorem HeldP.low {b N : Nat} {bv rv : Value} {V Z : World} (h : HeldP b bv rv V) (hb : Below N V Z) (hN : b < N) : HeldP b bv rv Z := ⟨(hb.cell (p := ⟨b, _, none⟩) hN).trans h.1, (hb.cell (p := ⟨b, _, none⟩) hN).trans h.2⟩
def reasonsOps : Array Oper := #[
  { dst := some 90, op := Op.load 25 (Operand.tmp 2), type := 25, pos := "outright.go:145", after := #[], guard := none },
  { dst := some 91, op := Op.move (Operand.tmp 6), type := 35, pos := "outright.go:145", after := #[], guard := none },
  { dst := some 92, op := Op.move (Operand.tmp 6), type := 35, pos := "outright.go:145", after := #[], guard := none },
  { dst := some 93, op := Op.move (Operand.tmp 15), type := 3, pos := "outright.go:145", after := #[], guard := none },
  { dst := some 94, op := Op.move (Operand.tmp 15), type := 3, pos := "outright.go:145", after := #[], guard := none },
  { dst := some 95, op := Op.binOp BinOp.add 3 (Operand.tmp 94) (Operand.const (Value.int IntKind.i64 1)) 3, type := 3, pos := "outright.go:145", after := #[{ on := 4, ground := Ground.data }], guard := none },
  { dst := some 96, op := Op.slice 35 (Operand.tmp 92) (some (Operand.tmp 93)) (some (Operand.tmp 95)) none, type := 35, pos := "outright.go:145", after := #[{ on := 2, ground := Ground.data }, { on := 3, ground := Ground.data }, { on := 5, ground := Ground.data }], guard := none },
  { dst := some 97, op := Op.buildSlice 115 2 #[(0, Operand.tmp 91), (1, Operand.tmp 96)], type := 115, pos := "outright.go:145", after := #[{ on := 1, ground := Ground.data }, { on := 6, ground := Ground.data }], guard := none },
  { dst := some 98, op := Op.call { callee := Callee.value (Operand.func 54), args := #[Operand.tmp 97], argTypes := #[115] }, type := 35, pos := "outright.go:145", after := #[{ on := 7, ground := Ground.data }], guard := none },
  { dst := some 99, op := Op.call { callee := Callee.value (Operand.func 39), args := #[Operand.tmp 90, Operand.tmp 98], argTypes := #[25, 35] }, type := 31, pos := "outright.go:145", after := #[{ on := 0, ground := Ground.data }, { on := 8, ground := Ground.data }, { on := 8, ground := Ground.chain }], guard := none },
  { dst := some 89, op := Op.move (Operand.tmp 99), type := 31, pos := "outright.go:145", after := #[{ on := 9, ground := Ground.data }], guard := none },
  { dst := some 100, op := Op.extract (Operand.tmp 89) 0, type := 3, pos := "outright.go:145", after := #[{ on := 10, ground := Ground.data }], guard := none },
  { dst := some 101, op := Op.extract (Operand.tmp 89) 1, type := 29, pos := "outright.go:145", after := #[{ on := 10, ground := Ground.data }, { on := 13, ground := Ground.gcOnly Departure.lateStores }], guard := none },
  { dst := some 16, op := Op.assign (Operand.tmp 100), type := 3, pos := "outright.go:145", after := #[{ on := 11, ground := Ground.data }, { on := 9, ground := Ground.chain }, { on := 0, ground := Ground.phase }, { on := 1, ground := Ground.phase }, { on := 2, ground := Ground.phase }, { on := 3, ground := Ground.phase }, { on := 4, ground := Ground.phase }, { on := 5, ground := Ground.phase }, { on := 6, ground := Ground.phase }, { on := 7, ground := Ground.phase }, { on := 8, ground := Ground.phase }, { on := 9, ground := Ground.phase }, { on := 10, ground := Ground.phase }, { on := 11, ground := Ground.phase }, { on := 12, ground := Ground.textOnly Departure.lateStores }], guard := none },
  { dst := some 8, op := Op.assign (Operand.tmp 101), type := 29, pos := "outright.go:145", after := #[{ on := 12, ground := Ground.data }, { on := 13, ground := Ground.chain }, { on := 0, ground := Ground.phase }, { on := 1, ground := Ground.phase }, { on := 2, ground := Ground.phase }, { on := 3, ground := Ground.phase }, { on := 4, ground := Ground.phase }, { on := 5, ground := Ground.phase }, { on := 6, ground := Ground.phase }, { on := 7, ground := Ground.phase }, { on := 8, ground := Ground.phase }, { on := 9, ground := Ground.phase }, { on := 10, ground := Ground.phase }, { on := 11, ground := Ground.phase }, { on := 12, ground := Ground.phase }, { on := 13, ground := Ground.phase }], guard := none }]
set_option maxRecDepth 100000 in
set_option maxHeartbeats 4000000 in
theorem setsReasons_any (p : Prob) (by_ : Nat) (hby : by_ < 256) (bv rv : Value) (w : World) {B : Nat} (hbv : Bnds w B bv p.bounds) (hrv : Rls w B rv p.rules) (hB0 : 0 < B) (hB : B ≤ w.heap.size) (hub : U64s p.bounds) (hT : Tab w) :
    Gives Tryd.prog 10 #[.agg #[bv, rv], .int .u8 by_] w (.bool true) := by
  unfold Gives
  have HBV := Lib.hid hbv; have HRV := Lib.hid hrv; have HT := Lib.hid hT; have HUB := Lib.hid hub
  have hw0 : 0 < w.heap.size := by omega
  obtain ⟨ba, bc, rfl⟩ := hbv.slice
  obtain ⟨ra, rc, rfl⟩ := hrv.slice
  clear hbv hrv hT hub
  have K0 := Lib.hid (heap_new0 w (.cells #[.slice ba p.bounds.length bc, .slice ra p.rules.length rc] 25)); have HB0 := Lib.hid (Below.new1 w (.cells #[.slice ba p.bounds.length bc, .slice ra p.rules.length rc] 25))
  go_enter Tryd.func10, Tryd.ntmps10
  go_wp2_with fail
  refine (fine_any p _ _ _ (HBV.out.below HB0.out hB) (HRV.out.below HB0.out hB) (by simp; omega) HUB.out).mono ?_
  rintro e w1 ⟨rfl, hb1⟩
  have HB1 := Lib.hid (HB0.out.trans (hb1.mono (by simp))); have K1 := Lib.hid (heap_later K0.out hb1 (by simp))
  clear hb1 K0 HB0
  have z1 : w.heap.size < w1.heap.size := (Array.getElem?_eq_some_iff.1 K1.out).1
  cases hfi : smallOk p && probOk p
  case false =>
    clear hfi
    go_wp2_with fail
    refine (works_any _ (HT.out.below HB1.out hw0) (by have := HB1.out.size; omega)).mono ?_
    rintro e1 w9 ⟨rfl, hb9⟩
    have HF := Lib.hid (HB1.out.trans (hb9.mono HB1.out.size))
    clear hb9
    go_wp2
    go_ret
    exact ⟨rfl, HF.out⟩
  case true =>
    have hpo : probOk p = true := by rw [Bool.and_eq_true] at hfi; exact hfi.2
    have HPO := Lib.hid hpo
    have HFO := Lib.hid (facts_ok hpo); have HRG := Lib.hid (run_good hpo true)
    clear hfi hpo
    have c0 : w1.cell? ⟨w.heap.size, 0, none⟩ = some (.slice ba p.bounds.length bc) := by rw [cell_of_row _ _ _ _ _ _ K1.out]; rfl
    have c1 : w1.cell? ⟨w.heap.size, 1, none⟩ = some (.slice ra p.rules.length rc) := by rw [cell_of_row _ _ _ _ _ _ K1.out]; rfl
    go_wp2_with fail
    refine (propagate_yes p _ _ _ (HBV.out.below HB1.out hB) (HRV.out.below HB1.out hB) hB0 (by omega) HUB.out (HT.out.below HB1.out hw0) HPO.out).mono ?_
    rintro e w2 ⟨b', l', rfl, hpb, hpl, hb2⟩
    obtain ⟨fs, hfs⟩ : ∃ fs, fs = (propR p).1.2 := ⟨_, rfl⟩
    obtain ⟨n, hn⟩ : ∃ n, n = (propR p).2 := ⟨_, rfl⟩
    rw [← hfs] at hpl
    rw [← hn]
    have hfl : fs.length ≤ 96 := by rw [hfs]; have := HRG.out.few; show (propR p).1.2.length ≤ 96; unfold propR; omega
    have HFO2 : Hid (FactsOk p ((propR p).1.1, fs)) := Lib.hid (by rw [hfs]; exact HFO.out)
    have HSH : Hid (∀ i, i < fs.length → (fget fs i).why.length ≤ 96) := Lib.hid (by rw [hfs]; exact HRG.out.short)
    have HB2 := Lib.hid (HB1.out.trans (hb2.mono HB1.out.size)); have K2 := Lib.hid (heap_later K1.out hb2 z1)
    have HPL := Lib.hid hpl
    obtain ⟨xa, xn, xc, rfl⟩ : ∃ a n c, b' = .slice a n c := by obtain ⟨a, c, h⟩ := hpb.slice; exact ⟨_, _, _, h⟩
    obtain ⟨la, lc, rfl⟩ := hpl.slice
    have hlc : fs.length ≤ lc := by obtain ⟨c, ⟨_, a', cap', hv, h, _⟩, _⟩ := hpl; cases hv; exact h
    have hlm : lc ≤ 9223372036854775807 := by obtain ⟨c, ⟨_, a', cap', hv, _, h, _⟩, _⟩ := hpl; cases hv; unfold maxLen at h; omega
    have z2 : w.heap.size < w2.heap.size := (Array.getElem?_eq_some_iff.1 K2.out).1
    clear hb2 c0 c1 hpb hpl hfs hn HFO HRG
    have hl110 : ¬ (110 : Int) < ((fs.length : Nat) : Int) := by omega
    go_wp2_with fail
    go_loopw [38] (fun iv wr => ∃ i : Nat, i ≤ fs.length ∧ iv = .int .i64 i ∧ Below w2.heap.size w2 wr) (fun iv _ => fs.length - (intOf iv).toNat)
    case atStart => exact ⟨0, Nat.zero_le _, rfl, Below.refl _ _⟩
    case round =>
      obtain ⟨i, hi, rfl, hb⟩ := hrel
      have HB := Lib.hid hb
      by_cases hlt : i < fs.length
      · obtain ⟨lb, lo, ov, hla, hlb, hov, l0, l1, l2, l3, l4⟩ := (HPL.out.below hb (Nat.le_refl _)).cells hlt
        subst hla
        have zl : lb < wr.heap.size := by have := hb.size; omega
        obtain ⟨oa, oc, rfl⟩ := hov.slice
        have HOV := Lib.hid hov
        clear hov hb
        go_upto_region 9 with fail
        refine abs_wp (fun Z => Z.heap[wr.heap.size]? = some (.cells #[.int .i64 (fget fs i).var, .int .i64 (fget fs i).elem, .bool (fget fs i).inn, .int .i64 (fget fs i).rule, .slice oa (fget fs i).why.length oc] 56 (0, 0)) ∧ Below wr.heap.size wr Z) ⟨heap_new0 _ _, Below.new1 _ _⟩ ?_
        clear l0 l1 l2 l3 l4
        obtain ⟨wi, rfl⟩ : ∃ wi : World, wi = wr := ⟨_, rfl⟩
        rintro W ⟨kf, hbf⟩
        have KF := Lib.hid kf; have HBF := Lib.hid hbf
        have d4 : W.cell? ⟨wi.heap.size, 4, none⟩ = some (.slice oa (fget fs i).why.length oc) := by rw [cell_of_row _ _ _ _ _ _ kf]; rfl
        clear kf hbf
        obtain ⟨f, hf⟩ : ∃ f, f = fget fs i := ⟨_, rfl⟩
        rw [← hf] at KF d4 HOV ⊢
        have HF := Lib.hid hf
        have hwl : f.why.length ≤ 96 := by rw [hf]; exact HSH.out i hlt
        clear hf
        go_wp2_with fail
        clear d4
        go_loopw [46] (fun kv wr => ∃ k : Nat, k ≤ f.why.length ∧ kv = .int .i64 k ∧ Below W.heap.size W wr) (fun kv _ => f.why.length - (intOf kv).toNat)
        case atStart => exact ⟨0, Nat.zero_le _, rfl, Below.refl _ _⟩
        case round =>
          obtain ⟨k, hk, rfl, hbk⟩ := hrel
          have HBK := Lib.hid hbk
          by_cases hkl : k < f.why.length
          · have hb2k := HB.out.trans ((HBF.out.trans (hbk.mono HBF.out.size)).mono HB.out.size)
            have HB2K := Lib.hid hb2k
            have hplk := HPL.out.below hb2k (Nat.le_refl _)
            have HCL := Lib.hid (clone_facts (fs.take (i + 1)) (.slice (some ⟨lb, lo, none⟩) (i + 1) lc) wr (hplk.take (k := i + 1) (by omega)) hb2k.size (by simp; omega) (by simp; omega))
            have htl : (fs.take (i + 1)).length = i + 1 := by simp; omega
            rw [htl] at HCL
            have HTL := Lib.hid htl
            have h2 : (i : Int) + 1 ≤ ((lc : Nat) : Int) := by omega
            have h3 : (0 : Int) ≤ (i : Int) + 1 := by omega
            have h4 : ((i : Int) + 1).toNat = i + 1 := by omega
            have h5 : IntKind.i64.wrap ((i : Int) + 1) = (i : Int) + 1 := IntWalk.i64_in _ (by omega)
            clear hbk hb2k hplk htl
            go_wp2_with fail
            clear h2 h3 h4 h5
            refine HCL.out.mono ?_
            rintro e w5 ⟨g, gc, cs, rfl, how, hfc, hb5⟩
            obtain ⟨_, a', c', hae, _, _, hrow⟩ := HOV.out
            cases hae
            obtain ⟨yb, yo, rfl, hyb, hycell⟩ := hrow (by omega)
            clear hrow hycell
            have hbW5 := HBK.out.trans (hb5.mono HBK.out.size)
            have hb25 := HB2K.out.trans (hb5.mono HB2K.out.size)
            have kf5 := heap_later KF.out hbW5 (Array.getElem?_eq_some_iff.1 KF.out).1
            have d4 : w5.cell? ⟨wi.heap.size, 4, none⟩ = some (.slice (some ⟨yb, yo, none⟩) f.why.length oc) := by rw [cell_of_row _ _ _ _ _ _ kf5]; rfl
            have zf5 : wi.heap.size < w5.heap.size := (Array.getElem?_eq_some_iff.1 kf5).1
            have hov5 := HOV.out.below (HBF.out.trans (hbW5.mono HBF.out.size)) (show w2.heap.size ≤ wi.heap.size from HB.out.size)
            have hgl := (how.lt g rfl).1
            have hwg : w2.heap.size ≤ wr.heap.size := HB2K.out.size
            have HCI := Lib.hid (clone_ints f.why yb yo f.why.length oc w5 hov5 (by omega) (by omega))
            have HOW := Lib.hid how; have HFC := Lib.hid hfc; have HB25 := Lib.hid hb25; have HBW5 := Lib.hid hbW5
            clear how hfc hb5 hbW5 hb25 kf5 hov5 HCL HB2K
            go_wp2_with fail
            refine HCI.out.mono ?_
            rintro e w6 ⟨yv, rfl, hyo, hb6⟩
            obtain ⟨g6, c6, cur6, rfl, hg6, -, -, -, -⟩ := own_some hyo (by omega)
            have HDI := Lib.hid (delete_ints f.why g6 f.why.length c6 k w5.heap.size w6 hyo hkl)
            have HB6 := Lib.hid hb6
            clear hyo hb6 HCI d4
            go_wp2_with fail
            refine HDI.out.mono ?_
            rintro e w7 ⟨rfl, hyo7, hb7⟩
            have hb57 := HB6.out.trans (hb7.mono hg6)
            have hb27 := HB25.out.trans (hb57.mono HB25.out.size)
            have how7 := own_ck HOW.out (CK.below hb57)
            have hfc7 := HFC.out.below hb57 HB25.out.size
            obtain ⟨g', gc', curg, hae, hg', hgb, -, -, -⟩ := own_some how7 (by omega)
            cases hae
            obtain ⟨e0, e1, e2, e3, yold, e4, e5⟩ := hfc7.2 i (by rw [HTL.out]; omega)
            have q4 : w7.cell? ⟨g, i * 5 + 4, none⟩ = some yold := by have := how7.cells (g := g) rfl _ _ e4; rwa [Addr.add_lit, Nat.zero_add] at this
            have q4f : w7.frozen? ⟨g, i * 5 + 4, none⟩ = false := by simp [World.frozen?, hgb]
            have k7 := heap_later K2.out hb27 z2
            have c0 : w7.cell? ⟨w.heap.size, 0, none⟩ = some (.slice ba p.bounds.length bc) := by rw [cell_of_row _ _ _ _ _ _ k7]; rfl
            have c1 : w7.cell? ⟨w.heap.size, 1, none⟩ = some (.slice ra p.rules.length rc) := by rw [cell_of_row _ _ _ _ _ _ k7]; rfl
            have zw7 : w.heap.size < w7.heap.size := (Array.getElem?_eq_some_iff.1 k7).1
            have zg7 : g < w7.heap.size := (Array.getElem?_eq_some_iff.1 hgb).1
            have hne : w.heap.size ≠ g := by omega
            have hst := (how7.stored (i * 5 + 4) (.slice (some ⟨g6, 0, none⟩) (f.why.length - 1) c6)).1
            have hyW := own_setF (o := i * 5 + 4) (x := .slice (some ⟨g6, 0, none⟩) (f.why.length - 1) c6) hyo7 hgb (by decide)
            have hb2W := hb27.setCell (p := ⟨g, i * 5 + 4, none⟩) (show w2.heap.size ≤ g by omega) (.slice (some ⟨g6, 0, none⟩) (f.why.length - 1) c6)
            have hfcW := (hfc7.below ((Below.refl w2.heap.size w7).setCell (p := ⟨g, i * 5 + 4, none⟩) (show w2.heap.size ≤ g by omega) (.slice (some ⟨g6, 0, none⟩) (f.why.length - 1) c6)) (Nat.le_refl _)).mono hb2W.size
            have hyi := ownsRow_ints hyW (by omega) (List.length_eraseIdx_of_lt hkl)
            have hnew := hfcW.setWhy (i := i) (by rw [HTL.out]; omega) hyi
            rw [fget_take (by omega), ← HF.out, take_set_last hlt] at hnew
            have hL := hnew.fcts (v := .slice (some ⟨g, 0, none⟩) (i + 1) gc) (by rw [List.length_append, List.length_take, Nat.min_eq_left (by omega)]; exact hst) (Nat.le_refl _) (by simp; omega)
            have hbwW := HB2.out.trans (hb2W.mono HB2.out.size)
            have hver := verify_any p (fs.take i ++ [{ f with why := f.why.eraseIdx k }]) _ _ _ _ ((HBV.out.below hbwW hB).mono (Nat.le_trans hB hbwW.size)) ((HRV.out.below hbwW hB).mono (Nat.le_trans hB hbwW.size)) hL (Nat.le_refl _) HUB.out (HT.out.below hbwW hw0) (Nat.lt_of_lt_of_le hw0 hbwW.size)
            have hfew := HFO2.out.fewer HPO.out hlt (k := k) (by show k < (fget fs i).why.length; rw [← HF.out]; exact hkl)
            simp only [← HF.out] at hfew
            rw [hfew.1, hfew.2] at hver
            have HVER := Lib.hid hver
            have HBN := Lib.hid ((HBW5.out.trans (hb57.mono HBW5.out.size)).setCell (p := ⟨g, i * 5 + 4, none⟩) (show W.heap.size ≤ g from Nat.le_trans HBK.out.size hgl) (.slice (some ⟨g6, 0, none⟩) (f.why.length - 1) c6))
            clear hyo7 hb7 hb57 hb27 how7 hfc7 hgb e0 e1 e2 e3 e4 e5 k7 hst hyW hb2W hfcW hyi hnew hL hbwW hver hfew HDI HOW HFC
            go_wp2_with fail
            refine HVER.out.mono ?_
            rintro e w9 ⟨rfl, hb9⟩
            have HB9 := Lib.hid (HBN.out.trans (hb9.mono HBN.out.size))
            clear hb9 HVER c0 c1 q4 q4f
            go_wp2
            go_roundw
            case rel => exact ⟨k + 1, by omega, by go_num, HB9.out⟩
            case measure => simp [intOf]; omega
          · have hk2 : k = f.why.length := by omega
            subst hk2
            clear hbk
            go_wp2
            go_roundw
            case rel => exact ⟨i + 1, by omega, by go_num, HB.out.trans ((HBF.out.trans (HBK.out.mono HBF.out.size)).mono HB.out.size)⟩
            case measure => simp [intOf]; omega
      · have hi2 : i = fs.length := by omega
        subst hi2
        clear hb
        have HBW := Lib.hid (HB2.out.trans (HB.out.mono HB2.out.size))
        by_cases h0 : fs.length = 0
        · have e0 : (((fs.length : Nat) : Int) == 0) = true := by rw [h0]; rfl
          clear h0
          go_wp2_with fail
          refine (works_any _ (HT.out.below HBW.out hw0) (by have := HBW.out.size; omega)).mono ?_
          rintro e1 w9 ⟨rfl, hb9⟩
          have HF := Lib.hid (HBW.out.trans (hb9.mono HBW.out.size))
          clear hb9
          go_wp2
          go_ret
          exact ⟨rfl, HF.out⟩
        · have e0 : (((fs.length : Nat) : Int) == 0) = false := by rw [beq_eq_false_iff_ne]; omega
          have hz : ¬ ((fs.length : Nat) : Int) = 0 := by omega
          go_upto_region 22 with fail
          rw [show ((by_ : Nat) : Int) % ((fs.length : Nat) : Int) = ((by_ % fs.length : Nat) : Int) from rfl]
          obtain ⟨i0, hi0⟩ : ∃ i0, i0 = by_ % fs.length := ⟨_, rfl⟩
          rw [← hi0]
          have hil : i0 < fs.length := by rw [hi0]; exact Nat.mod_lt _ (by omega)
          clear hi0
          obtain ⟨lb, lo, ov, hla, hlb, hov, -, -, -, -, -⟩ := HPL.out.cells hil
          subst hla
          clear hov
          have kw := heap_later K2.out HB.out z2
          have hheld : HeldP w.heap.size (.slice ba p.bounds.length bc) (.slice ra p.rules.length rc) wr := ⟨by rw [cell_of_row _ _ _ _ _ _ kw]; rfl, by rw [cell_of_row _ _ _ _ _ _ kw]; rfl⟩
          have zw : w.heap.size < wr.heap.size := (Array.getElem?_eq_some_iff.1 kw).1
          have HH := Lib.hid hheld; have KW := Lib.hid kw
          clear kw hheld
          refine wp_region_held_drew (S := HeldP w.heap.size (.slice ba p.bounds.length bc) (.slice ra p.rules.length rc)) (by kernel_rfl) (HH.out.low (Below.drewn (Below.refl wr.heap.size wr)) zw) (fun hHeld => ?_)
          change wpAnyH _ _ reasonsOps _ _ _ _ _ _
          refine abs_anyHS (fun Z => Below wr.heap.size wr Z) (Below.drewn (Below.refl wr.heap.size wr)) hHeld ?_
          clear hHeld
          rintro V hbV hHeld
          have SL := Lib.hid (fun (Z : World) (h : HeldP w.heap.size (.slice ba p.bounds.length bc) (.slice ra p.rules.length rc) Z) => h)
          have hbV2 := HB.out.trans (hbV.mono HB.out.size)
          have HBV2 := Lib.hid hbV2
          have hzV : w.heap.size < V.heap.size := by have := hbV.size; omega
          have h2 : (i0 : Int) + 1 ≤ ((lc : Nat) : Int) := by omega
          have h3 : (0 : Int) ≤ (i0 : Int) + 1 := by omega
          have h4 : ((i0 : Int) + 1).toNat = i0 + 1 := by omega
          have h5 : IntKind.i64.wrap ((i0 : Int) + 1) = (i0 : Int) + 1 := IntWalk.i64_in _ (by omega)
          have h6 : ¬ lc = i0 := by omega
          have h7 : (i0 : Int) ≤ (i0 : Int) + 1 := by omega
          refine wpAnyH_take (i := 0) (oi := { dst := some 90, op := Op.load 25 (Operand.tmp 2), type := 25, pos := "outright.go:145", after := #[], guard := none }) (v := ?_) rfl (by kernel_rfl) (by kernel_rfl) (by kernel_rfl) (fun _ _ _ h => h) (Or.inl ⟨by kernel_rfl, ?_⟩) hHeld ?_
          rotate_left
          · intro w hSw
            obtain ⟨hs0, hs1⟩ := SL.out w hSw
            clear hSw
            go_simp
            try with_reducible rfl
          try simp only [Act.put, List.setIfInBounds_toArray, List.set_cons_zero, List.set_cons_succ]
          refine wpAnyH_take (i := 1) (oi := { dst := some 91, op := Op.move (Operand.tmp 6), type := 35, pos := "outright.go:145", after := #[], guard := none }) (v := ?_) rfl (by kernel_rfl) (by kernel_rfl) (by kernel_rfl) (fun _ _ _ h => h) (Or.inl ⟨by kernel_rfl, ?_⟩) hHeld ?_
          rotate_left
          · intro w hSw
            clear hSw
            go_simp
            try with_reducible rfl
          try simp only [Act.put, List.setIfInBounds_toArray, List.set_cons_zero, List.set_cons_succ]
          refine wpAnyH_take (i := 2) (oi := { dst := some 92, op := Op.move (Operand.tmp 6), type := 35, pos := "outright.go:145", after := #[], guard := none }) (v := ?_) rfl (by kernel_rfl) (by kernel_rfl) (by kernel_rfl) (fun _ _ _ h => h) (Or.inl ⟨by kernel_rfl, ?_⟩) hHeld ?_
          rotate_left
          · intro w hSw
            clear hSw
            go_simp
            try with_reducible rfl
          try simp only [Act.put, List.setIfInBounds_toArray, List.set_cons_zero, List.set_cons_succ]
          refine wpAnyH_take (i := 3) (oi := { dst := some 93, op := Op.move (Operand.tmp 15), type := 3, pos := "outright.go:145", after := #[], guard := none }) (v := ?_) rfl (by kernel_rfl) (by kernel_rfl) (by kernel_rfl) (fun _ _ _ h => h) (Or.inl ⟨by kernel_rfl, ?_⟩) hHeld ?_
          rotate_left
          · intro w hSw
            clear hSw
            go_simp
            try with_reducible rfl
          try simp only [Act.put, List.setIfInBounds_toArray, List.set_cons_zero, List.set_cons_succ]
          refine wpAnyH_take (i := 4) (oi := { dst := some 94, op := Op.move (Operand.tmp 15), type := 3, pos := "outright.go:145", after := #[], guard := none }) (v := ?_) rfl (by kernel_rfl) (by kernel_rfl) (by kernel_rfl) (fun _ _ _ h => h) (Or.inl ⟨by kernel_rfl, ?_⟩) hHeld ?_
          rotate_left
          · intro w hSw
            clear hSw
            go_simp
            try with_reducible rfl
          try simp only [Act.put, List.setIfInBounds_toArray, List.set_cons_zero, List.set_cons_succ]
          refine wpAnyH_take (i := 5) (oi := { dst := some 95, op := Op.binOp BinOp.add 3 (Operand.tmp 94) (Operand.const (Value.int IntKind.i64 1)) 3, type := 3, pos := "outright.go:145", after := #[{ on := 4, ground := Ground.data }], guard := none }) (v := ?_) rfl (by kernel_rfl) (by kernel_rfl) (by kernel_rfl) (fun _ _ _ h => h) (Or.inl ⟨by kernel_rfl, ?_⟩) hHeld ?_
          rotate_left
          · intro w hSw
            clear hSw
            go_simp
            try with_reducible rfl
          try simp only [Act.put, List.setIfInBounds_toArray, List.set_cons_zero, List.set_cons_succ]
          refine wpAnyH_take (i := 6) (oi := { dst := some 96, op := Op.slice 35 (Operand.tmp 92) (some (Operand.tmp 93)) (some (Operand.tmp 95)) none, type := 35, pos := "outright.go:145", after := #[{ on := 2, ground := Ground.data }, { on := 3, ground := Ground.data }, { on := 5, ground := Ground.data }], guard := none }) (v := ?_) rfl (by kernel_rfl) (by kernel_rfl) (by kernel_rfl) (fun _ _ _ h => h) (Or.inl ⟨by kernel_rfl, ?_⟩) hHeld ?_
          rotate_left
          · intro w hSw
            clear hSw
            go_simp
            try with_reducible rfl
          try simp only [Act.put, List.setIfInBounds_toArray, List.set_cons_zero, List.set_cons_succ]
          clear h2 h3 h4 h5 h6 h7
          have HSV := Lib.hid hHeld
          refine wpAnyH_ready (rs := [7]) (by kernel_rfl) (by simp) ?_
          refine AllReadyH.cons (o := { dst := some 97, op := Op.buildSlice 115 2 #[(0, Operand.tmp 91), (1, Operand.tmp 96)], type := 115, pos := "outright.go:145", after := #[{ on := 1, ground := Ground.data }, { on := 6, ground := Ground.data }], guard := none }) rfl (fun K hK => ?_) AllReadyH.nil
          go_simp
          refine hK.out _ _ (hHeld.low (Below.new1 V _) hzV) (fun hHeld => ?_)
          clear hK K
          try simp only [Act.put, List.setIfInBounds_toArray, List.set_cons_zero, List.set_cons_succ]
          have hn7 := Below.new1 V (.cells #[.slice (some ⟨lb, lo, none⟩) fs.length lc, .slice (some ⟨lb, lo + i0 * 5, none⟩) 1 (lc - i0)] 35)
          have hpl7 := HPL.out.below (hbV2.trans (hn7.mono hbV2.size)) (Nat.le_refl _)
          have HCC := Lib.hid (concat_facts fs [fget fs i0] _ _ V.heap.size 35 _ hpl7 (hpl7.one hil) (heap_new0 V _) (by have := hbV2.size; have := hn7.size; omega) (by omega) (by omega) (by show 1 ≤ 1000; decide))
          have HN7 := Lib.hid hn7
          clear hn7 hpl7
          refine wpAnyH_ready (rs := [8]) (by kernel_rfl) (by simp) ?_
          refine AllReadyH.cons (o := { dst := some 98, op := Op.call { callee := Callee.value (Operand.func 54), args := #[Operand.tmp 97], argTypes := #[115] }, type := 35, pos := "outright.go:145", after := #[{ on := 7, ground := Ground.data }], guard := none }) rfl (fun K hK => ?_) AllReadyH.nil
          go_simp
          refine HCC.out.mono ?_
          rintro e1 V8 ⟨cv, rfl, hcf, hb8⟩
          obtain ⟨ca, cc, rfl⟩ : ∃ a c, cv = .slice a (fs.length + 1) c := by
            obtain ⟨a, c, h⟩ := hcf.slice
            exact ⟨a, c, by rw [h]; simp⟩
          have hb28 := hbV2.trans ((HN7.out.trans (hb8.mono HN7.out.size)).mono hbV2.size)
          have hbw8 := HB2.out.trans (hb28.mono HB2.out.size)
          have hver := verify_any p (fs ++ [fget fs i0]) _ _ _ V8 ((HBV.out.below hbw8 hB).mono (Nat.le_trans hB hbw8.size)) ((HRV.out.below hbw8 hB).mono (Nat.le_trans hB hbw8.size)) hcf (Nat.le_refl _) HUB.out (HT.out.below hbw8 hw0) (Nat.lt_of_lt_of_le hw0 hbw8.size)
          have htw := HFO2.out.twice HPO.out hil
          simp only at htw
          rw [htw.1, htw.2] at hver
          have HVER := Lib.hid hver; have HB28 := Lib.hid hb28; have HBX8 := Lib.hid (HN7.out.trans (hb8.mono HN7.out.size))
          clear hcf hb8 hb28 hbw8 hver htw HCC
          go_wp2_with fail
          refine hK.out _ _ (HSV.out.low HBX8.out hzV) (fun hHeld => ?_)
          clear hK K
          try simp only [Act.put, List.setIfInBounds_toArray, List.set_cons_zero, List.set_cons_succ]
          refine wpAnyH_ready (rs := [9]) (by kernel_rfl) (by simp) ?_
          refine AllReadyH.cons (o := { dst := some 99, op := Op.call { callee := Callee.value (Operand.func 39), args := #[Operand.tmp 90, Operand.tmp 98], argTypes := #[25, 35] }, type := 31, pos := "outright.go:145", after := #[{ on := 0, ground := Ground.data }, { on := 8, ground := Ground.data }, { on := 8, ground := Ground.chain }], guard := none }) rfl (fun K hK => ?_) AllReadyH.nil
          go_simp
          refine HVER.out.mono ?_
          rintro e1 V9 ⟨rfl, hb9⟩
          have HB29 := Lib.hid (HB28.out.trans (hb9.mono HB28.out.size)); have HBX9 := Lib.hid (HBX8.out.trans (hb9.mono HBX8.out.size))
          clear hb9 HVER
          go_wp2_with fail
          refine hK.out _ _ (HSV.out.low HBX9.out hzV) (fun hHeld => ?_)
          clear hK K
          try simp only [Act.put, List.setIfInBounds_toArray, List.set_cons_zero, List.set_cons_succ]
          refine wpAnyH_take (i := 10) (oi := { dst := some 89, op := Op.move (Operand.tmp 99), type := 31, pos := "outright.go:145", after := #[{ on := 9, ground := Ground.data }], guard := none }) (v := ?_) rfl (by kernel_rfl) (by kernel_rfl) (by kernel_rfl) (fun _ _ _ h => h) (Or.inl ⟨by kernel_rfl, ?_⟩) hHeld ?_
          rotate_left
          · intro w hSw
            clear hSw
            go_simp
            try with_reducible rfl
          try simp only [Act.put, List.setIfInBounds_toArray, List.set_cons_zero, List.set_cons_succ]
          refine wpAnyH_take (i := 11) (oi := { dst := some 100, op := Op.extract (Operand.tmp 89) 0, type := 3, pos := "outright.go:145", after := #[{ on := 10, ground := Ground.data }], guard := none }) (v := ?_) rfl (by kernel_rfl) (by kernel_rfl) (by kernel_rfl) (fun _ _ _ h => h) (Or.inl ⟨by kernel_rfl, ?_⟩) hHeld ?_
          rotate_left
          · intro w hSw
            clear hSw
            go_simp
            try with_reducible rfl
          try simp only [Act.put, List.setIfInBounds_toArray, List.set_cons_zero, List.set_cons_succ]
          refine wpAnyH_take (i := 12) (oi := { dst := some 101, op := Op.extract (Operand.tmp 89) 1, type := 29, pos := "outright.go:145", after := #[{ on := 10, ground := Ground.data }, { on := 13, ground := Ground.gcOnly Departure.lateStores }], guard := none }) (v := ?_) rfl (by kernel_rfl) (by kernel_rfl) (by kernel_rfl) (fun _ _ _ h => h) (Or.inl ⟨by kernel_rfl, ?_⟩) hHeld ?_
          rotate_left
          · intro w hSw
            clear hSw
            go_simp
            try with_reducible rfl
          try simp only [Act.put, List.setIfInBounds_toArray, List.set_cons_zero, List.set_cons_succ]
          refine wpAnyH_take (i := 13) (oi := { dst := some 16, op := Op.assign (Operand.tmp 100), type := 3, pos := "outright.go:145", after := #[{ on := 11, ground := Ground.data }, { on := 9, ground := Ground.chain }, { on := 0, ground := Ground.phase }, { on := 1, ground := Ground.phase }, { on := 2, ground := Ground.phase }, { on := 3, ground := Ground.phase }, { on := 4, ground := Ground.phase }, { on := 5, ground := Ground.phase }, { on := 6, ground := Ground.phase }, { on := 7, ground := Ground.phase }, { on := 8, ground := Ground.phase }, { on := 9, ground := Ground.phase }, { on := 10, ground := Ground.phase }, { on := 11, ground := Ground.phase }, { on := 12, ground := Ground.textOnly Departure.lateStores }], guard := none }) (v := ?_) rfl (by kernel_rfl) (by kernel_rfl) (by kernel_rfl) (fun _ _ _ h => h) (Or.inl ⟨by kernel_rfl, ?_⟩) hHeld ?_
          rotate_left
          · intro w hSw
            clear hSw
            go_simp
            try with_reducible rfl
          try simp only [Act.put, List.setIfInBounds_toArray, List.set_cons_zero, List.set_cons_succ]
          refine wpAnyH_take (i := 14) (oi := { dst := some 8, op := Op.assign (Operand.tmp 101), type := 29, pos := "outright.go:145", after := #[{ on := 12, ground := Ground.data }, { on := 13, ground := Ground.chain }, { on := 0, ground := Ground.phase }, { on := 1, ground := Ground.phase }, { on := 2, ground := Ground.phase }, { on := 3, ground := Ground.phase }, { on := 4, ground := Ground.phase }, { on := 5, ground := Ground.phase }, { on := 6, ground := Ground.phase }, { on := 7, ground := Ground.phase }, { on := 8, ground := Ground.phase }, { on := 9, ground := Ground.phase }, { on := 10, ground := Ground.phase }, { on := 11, ground := Ground.phase }, { on := 12, ground := Ground.phase }, { on := 13, ground := Ground.phase }], guard := none }) (v := ?_) rfl (by kernel_rfl) (by kernel_rfl) (by kernel_rfl) (fun _ _ _ h => h) (Or.inl ⟨by kernel_rfl, ?_⟩) hHeld ?_
          rotate_left
          · intro w hSw
            clear hSw
            go_simp
            try with_reducible rfl
          try simp only [Act.put, List.setIfInBounds_toArray, List.set_cons_zero, List.set_cons_succ]
          refine wpAnyH_done (by kernel_rfl) ?_ _
          clear hHeld HSV SL hbV hbV2
          go_wp2_with fail
          have htl : (fs.take (i0 + 1)).length = i0 + 1 := by simp; omega
          have hcl := clone_facts (fs.take (i0 + 1)) (.slice (some ⟨lb, lo, none⟩) (i0 + 1) lc) V9 ((HPL.out.below HB29.out (Nat.le_refl _)).take (k := i0 + 1) (by omega)) HB29.out.size (by omega) (by omega)
          rw [htl] at hcl
          have HCL := Lib.hid hcl; have HTL := Lib.hid htl
          clear hcl htl
          refine HCL.out.mono ?_
          rintro e1 w5 ⟨g, gc, cs, rfl, how, hfc, hb5⟩
          have hb25 := HB29.out.trans (hb5.mono HB29.out.size)
          obtain ⟨g', gc', curg, hae, hg', hgb, -, -, -⟩ := own_some how (by omega)
          cases hae
          obtain ⟨e0', e1', e2, e3, yold, e4, e5⟩ := hfc.2 i0 (by rw [HTL.out]; omega)
          rw [fget_take (show i0 < i0 + 1 by omega)] at e2
          have q2 : w5.cell? ⟨g, i0 * 5 + 2, none⟩ = some (.bool (fget fs i0).inn) := by have := how.cells (g := g) rfl _ _ e2; rwa [Addr.add_lit, Nat.zero_add] at this
          have q2f : w5.frozen? ⟨g, i0 * 5 + 2, none⟩ = false := by simp [World.frozen?, hgb]
          have k5 := heap_later K2.out hb25 z2
          have c0 : w5.cell? ⟨w.heap.size, 0, none⟩ = some (.slice ba p.bounds.length bc) := by rw [cell_of_row _ _ _ _ _ _ k5]; rfl
          have c1 : w5.cell? ⟨w.heap.size, 1, none⟩ = some (.slice ra p.rules.length rc) := by rw [cell_of_row _ _ _ _ _ _ k5]; rfl
          have zw5 : w.heap.size < w5.heap.size := (Array.getElem?_eq_some_iff.1 k5).1
          have zg5 : g < w5.heap.size := (Array.getElem?_eq_some_iff.1 hgb).1
          have hgl := (how.lt g rfl).1
          have h2g : w2.heap.size ≤ g := Nat.le_trans HB29.out.size hgl
          have hne : w.heap.size ≠ g := by omega
          have hst := (how.stored (i0 * 5 + 2) (.bool (!(fget fs i0).inn))).1
          have hb2W := hb25.setCell (p := ⟨g, i0 * 5 + 2, none⟩) h2g (.bool (!(fget fs i0).inn))
          have hfcW := (hfc.below ((Below.refl w2.heap.size w5).setCell (p := ⟨g, i0 * 5 + 2, none⟩) h2g (.bool (!(fget fs i0).inn))) (Nat.le_refl _)).mono hb2W.size
          have hnew := hfcW.setIn (i := i0) (x := !(fget fs i0).inn) (by rw [HTL.out]; omega)
          rw [fget_take (show i0 < i0 + 1 by omega), take_set_last hil] at hnew
          have hL := hnew.fcts (v := .slice (some ⟨g, 0, none⟩) (i0 + 1) gc) (by rw [List.length_append, List.length_take, Nat.min_eq_left (by omega)]; exact hst) (Nat.le_refl _) (by simp; omega)
          have hbwW := HB2.out.trans (hb2W.mono HB2.out.size)
          have hver := verify_any p (fs.take i0 ++ [{ fget fs i0 with inn := !(fget fs i0).inn }]) _ _ _ _ ((HBV.out.below hbwW hB).mono (Nat.le_trans hB hbwW.size)) ((HRV.out.below hbwW hB).mono (Nat.le_trans hB hbwW.size)) hL (Nat.le_refl _) HUB.out (HT.out.below hbwW hw0) (Nat.lt_of_lt_of_le hw0 hbwW.size)
          have hcon := HFO2.out.contrary HPO.out hil
          simp only at hcon
          rw [hcon] at hver
          obtain ⟨vn, hvn⟩ : ∃ vn, vn = verN p (fs.take i0 ++ [{ fget fs i0 with inn := !(fget fs i0).inn }]) := ⟨_, rfl⟩
          rw [← hvn] at hver
          obtain ⟨fi, hfi⟩ : ∃ fi, fi = (fget fs i0).inn := ⟨_, rfl⟩
          rw [← hfi] at hver q2 hbwW
          have HVER := Lib.hid hver; have HBWW := Lib.hid hbwW
          clear how hfc hb5 hb25 hgb e0' e1' e2 e3 e4 e5 k5 hst hb2W hfcW hnew hL hbwW hver hcon hvn hfi HCL HTL
          go_wp2_with fail
          refine HVER.out.mono ?_
          rintro e1 w9 ⟨rfl, hb9⟩
          have HB9 := Lib.hid (HBWW.out.trans (hb9.mono HBWW.out.size))
          clear hb9 HVER c0 c1 q2 q2f
          go_wp2_with fail
          refine (works_any _ (HT.out.below HB9.out hw0) (by have := HB9.out.size; omega)).mono ?_
          rintro e1 w9 ⟨rfl, hb9⟩
          have HF := Lib.hid (HB9.out.trans (hb9.mono HB9.out.size))
          clear hb9
          go_wp2
          go_ret
          exact ⟨rfl, HF.out⟩
end Go.Proofs.YtilbbnjfaoldoaaDoor
