/- The reference: Reason. -/
import Derived.Test.YtilbbnjfaoldoaaDoorBI
namespace Go.Proofs.YtilbbnjfaoldoaaDoor
open Go Go.RowKit
attribute [local go_sem] cell_grow u64_sAnd u64_sOr u64_sDiff sDiff_all zeqI zneI sAnd_bit_zero sAnd_bit_zeroN sAnd_bit_nonzero rowOf_grow rowOk_grow rowOf_alloc rowOk_alloc

/-- Bounds that are the same, variable by variable. -/
def BEq2 (a b : List Bnd) : Prop := ∀ i, bget a i = bget b i
theorem BEq2.clash {a b : List Bnd} (h : BEq2 a b) : clashB a = clashB b := by
  have key : ∀ x y : List Bnd, BEq2 x y → clashB x = true → clashB y = true := by
    intro x y h hx
    unfold clashB at hx
    obtain ⟨z, hz, hc⟩ := List.any_eq_true.1 hx
    obtain ⟨i, hi, rfl⟩ := List.mem_iff_getElem.1 hz
    have e1 : bget x i = x[i] := by simp [bget, hi]
    have hc2 : (sDiff (bget y i).inn (bget y i).can == 0) = false := by
      rw [← h i, e1]; unfold clashAt at hc; simpa using hc
    by_cases hy : i < y.length
    · exact clashB_yes hy hc2
    · have e2 : bget y i = default := by unfold bget; rw [List.getElem?_eq_none (by omega)]; rfl
      rw [e2] at hc2
      exact absurd hc2 (by decide)
  cases ha : clashB a <;> cases hb : clashB b
  · rfl
  · rw [key b a (fun i => (h i).symm) hb] at ha; cases ha
  · rw [key a b h ha] at hb; cases hb
  · rfl
theorem BEq2.poss {a b : List Bnd} (h : BEq2 a b) (r : Rl) : possB a r = possB b r := by
  unfold possB
  congr 1
  unfold ofB
  exact List.map_congr_left fun x _ => h x.toNat
theorem BEq2.with {a b : List Bnd} (h : BEq2 a b) {v : Nat} (e : Nat) (i : Bool) (ha : v < a.length) (hb : v < b.length) : BEq2 (withB a v e i) (withB b v e i) := fun k => by
  rw [bget_withB _ _ _ _ ha, bget_withB _ _ _ _ hb, h v, h k]
theorem BEq2.pad (b : List Bnd) : BEq2 (padB b) b := fun i => bget_pad b i
/-- A fact about one of n variables and an element. -/
def FitN (n : Nat) (f : Fact) : Prop := ∃ v e : Nat, f.var = v ∧ v < n ∧ f.elem = e ∧ e < 12
theorem FitN.fit {n : Nat} {f : Fact} (h : FitN n f) (hn : n ≤ 8) : FFit f := by obtain ⟨v, e, h1, h2, h3, h4⟩ := h; exact ⟨v, e, h1, by omega, h3, h4⟩
theorem whyB_congr {l : List Fact} {n : Nat} (hl : ∀ i, i < l.length → FitN n (fget l i)) : ∀ (why : List Int) (a b : List Bnd), (∀ i, i < why.length → ∃ k : Nat, iget why i = k ∧ k < l.length) → n ≤ a.length → n ≤ b.length → BEq2 a b → BEq2 (whyB l a why) (whyB l b why)
  | [], _, _, _, _, _, h => h
  | k :: why, a, b, hw, ha, hb, h => by
    obtain ⟨j, hj, hjl⟩ := hw 0 (by simp)
    have hj' : k = j := hj
    obtain ⟨v, e, hv, hvn, he, he12⟩ := hl j hjl
    have e1 : ∀ x : List Bnd, stepB l x k = withB x v e (fget l j).inn := fun x => by unfold stepB; rw [hj', Int.toNat_natCast, hv, he, Int.toNat_natCast, Int.toNat_natCast]
    refine whyB_congr hl why (stepB l a k) (stepB l b k) (fun i hi => hw (i + 1) (by simpa using hi)) ?_ ?_ ?_
    · rw [e1, withB_length]; exact ha
    · rw [e1, withB_length]; exact hb
    · rw [e1, e1]; exact h.with _ _ (by omega) (by omega)
theorem whyB_len (l : List Fact) : ∀ (why : List Int) (b : List Bnd), (whyB l b why).length = b.length
  | [], _ => rfl
  | k :: why, b => by
    show (whyB l (stepB l b k) why).length = _
    rw [whyB_len l why]; unfold stepB; rw [withB_length]
theorem whyB_s12 {l : List Fact} {n : Nat} (hl : ∀ i, i < l.length → FitN n (fget l i)) : ∀ (why : List Int) (b : List Bnd), (∀ i, i < why.length → ∃ k : Nat, iget why i = k ∧ k < l.length) → S12 b → S12 (whyB l b why)
  | [], _, _, hS => hS
  | k :: why, b, hw, hS => by
    obtain ⟨j, hj, hjl⟩ := hw 0 (by simp)
    have hj' : k = j := hj
    obtain ⟨v, e, hv, hvn, he, he12⟩ := hl j hjl
    refine whyB_s12 hl why (stepB l b k) (fun i hi => hw (i + 1) (by simpa using hi)) ?_
    unfold stepB
    exact hS.with (by rw [hj', Int.toNat_natCast, he]; simpa using he12) _
def explN (p : Prob) (l : List Fact) (v e j : Nat) (inn : Bool) (why : List Int) : Bool := clashB (whyB l p.bounds why) || !possB (withB (whyB l p.bounds why) v e (!inn)) (rget p.rules j)
theorem expl_eq {p : Prob} {l : List Fact} {v e j : Nat} {inn : Bool} {why : List Int} (hp : p.bounds.length ≤ 8) (hl : ∀ i, i < l.length → FitN p.bounds.length (fget l i)) (hw : ∀ i, i < why.length → ∃ k : Nat, iget why i = k ∧ k < l.length) (hv : v < p.bounds.length) :
    explN p l v e j inn why = explB p l ⟨v, e, inn, j, why⟩ := by
  have h := whyB_congr hl why (padB p.bounds) p.bounds hw (by rw [padB_length hp]; exact hp) (Nat.le_refl _) (BEq2.pad _)
  unfold explN explB followsB
  simp only [Int.toNat_natCast]
  rw [h.clash, (h.with e (!inn) (by rw [whyB_len, padB_length hp]; omega) (by rw [whyB_len]; exact hv)).poss]
set_option maxRecDepth 100000 in
set_option maxHeartbeats 2000000 in
theorem refReason_any (p : Prob) (hpo : probOk p = true) (l : List Fact) (v e j : Nat) (inn : Bool) (why : List Int) (hl : ∀ i, i < l.length → FitN p.bounds.length (fget l i)) (hw : ∀ i, i < why.length → ∃ k : Nat, iget why i = k ∧ k < l.length) (hv : v < p.bounds.length) (he : e < 12) (hj : j < p.rules.length)
    (ya : Option Addr) (yn yc : Nat) (bv rv lv wv : Value) (w : World) {B : Nat} (hbv : Bnds w B bv p.bounds) (hrv : Rls w B rv p.rules) (hlv : Fcts w B lv l) (hwv : Ints w B wv why) (hB : B ≤ w.heap.size) :
    Gives Tryd.prog 112 #[.agg #[bv, rv], lv, .agg #[.int .i64 v, .int .i64 e, .bool inn, .int .i64 j, .slice ya yn yc], wv] w (.bool (explN p l v e j inn why)) := by
  unfold Gives
  have HBV := Lib.hid hbv; have HRV := Lib.hid hrv; have HLV := Lib.hid hlv; have HWV := Lib.hid hwv; have HL := Lib.hid hl; have HW := Lib.hid hw; have HPO := Lib.hid hpo
  have hfit := probOk_fit hpo
  have hn8 := hfit.2.1
  have HFIT := Lib.hid hfit
  have hbl := hbv.1
  have hrl := hrv.len
  have hll := hlv.len
  have hwl := hwv.1
  obtain ⟨ba, bc, rfl⟩ := hbv.slice
  obtain ⟨ra, rc, rfl⟩ := hrv.slice
  obtain ⟨la, lc, rfl⟩ := hlv.slice
  obtain ⟨wa, wc, rfl⟩ := hwv.slice
  clear hbv hrv hlv hwv hl hw hpo hfit
  have hn2 := heap_new2 w (.cells #[.slice ba p.bounds.length bc, .slice ra p.rules.length rc] 25) (.cells #[.int .i64 v, .int .i64 e, .bool inn, .int .i64 j, .slice ya yn yc] 56)
  have K0 := Lib.hid hn2.1; have F0 := Lib.hid hn2.2
  have HB0 := Lib.hid (Below.new2 w (.cells #[.slice ba p.bounds.length bc, .slice ra p.rules.length rc] 25) (.cells #[.int .i64 v, .int .i64 e, .bool inn, .int .i64 j, .slice ya yn yc] 56))
  clear hn2
  go_enter Tryd.func112, Tryd.ntmps112
  go_wp2_with fail
  go_loopw [9, 10] (fun av i wr => ∃ k : Nat, k ≤ why.length ∧ i = .int .i64 k ∧ Bnds wr wr.heap.size av (whyB l p.bounds (why.take k)) ∧
    wr.heap[w.heap.size]? = some (.cells #[.slice ba p.bounds.length bc, .slice ra p.rules.length rc] 25 (0, 0)) ∧ wr.heap[w.heap.size + 1]? = some (.cells #[.int .i64 v, .int .i64 e, .bool inn, .int .i64 j, .slice ya yn yc] 56 (0, 0)) ∧ Below w.heap.size w wr) (fun _ i _ => why.length - (intOf i).toNat)
  case atStart => exact ⟨0, Nat.zero_le _, rfl, (HBV.out.below HB0.out hB).mono (by have := HB0.out.size; omega), K0.out, F0.out, HB0.out⟩
  case round =>
    clear K0 F0 HB0
    obtain ⟨k, hk, rfl, hav, k0, f0, hb⟩ := hrel
    have z1 : w.heap.size + 1 < wr.heap.size := (Array.getElem?_eq_some_iff.1 f0).1
    have hwl2 : (whyB l p.bounds (why.take k)).length = p.bounds.length := whyB_len _ _ _
    have hS := whyB_s12 HL.out (why.take k) p.bounds (fun i hi => by rw [iget_take (by simp at hi; omega)]; exact HW.out i (by simp at hi; omega)) HFIT.out.2.2.2.2
    obtain ⟨aa, ac, hav2⟩ := hav.slice
    rw [hwl2] at hav2
    subst hav2
    by_cases hlt : k < why.length
    · obtain ⟨q, hqk, hql⟩ := HW.out k hlt
      obtain ⟨_, a', cap', hae, _, _, hrow⟩ := HWV.out.below hb hB
      cases hae
      obtain ⟨yb, yo, rfl, hyb, hycell⟩ := hrow (by omega)
      have y0 : wr.cell? ⟨yb, yo + k, none⟩ = some (.int .i64 q) := by rw [hycell k (by omega)]; show some (Value.int .i64 (iget why k)) = _; rw [hqk]
      obtain ⟨lb, lo, ov, hla, hlb, hov, l0, l1, l2, l3, l4⟩ := (HLV.out.below hb hB).cells hql
      subst hla
      obtain ⟨oa, oc, rfl⟩ := hov.slice
      obtain ⟨v2, e2, hv2, hv28, he2, he212⟩ := HL.out q hql
      rw [hv2] at l0; rw [he2] at l1
      have hst : whyB l p.bounds (why.take (k + 1)) = withB (whyB l p.bounds (why.take k)) v2 e2 (fget l q).inn := by
        rw [whyB_take_succ _ _ _ _ hlt]; unfold stepB; rw [hqk, Int.toNat_natCast, hv2, he2]; rfl
      have HAV := Lib.hid hav; have K0 := Lib.hid k0; have F0 := Lib.hid f0; have HB := Lib.hid hb; have HS := Lib.hid hS; have HST := Lib.hid hst; have HWL := Lib.hid hwl2
      clear hav k0 f0 hb hS hst hwl2 hycell hrow hv2 he2 hqk hov
      go_wp2_with fail
      have hn := Below.new1 wr (.cells #[.int .i64 v2, .int .i64 e2, .bool (fget l q).inn, .int .i64 (fget l q).rule, .slice oa (fget l q).why.length oc] 56)
      refine (refWith_any (whyB l p.bounds (why.take k)) v2 e2 (fget l q).inn _ _ (HAV.out.below hn (Nat.le_refl _)) (by simp) (by rw [HWL.out]; omega) (by rw [HWL.out]; exact hv28) (by omega) HS.out.u64).mono ?_
      rintro r w2 ⟨av, rfl, hav2, hb2⟩
      rw [← HST.out] at hav2
      have hb3 := hn.trans (hb2.mono (by simp))
      have HAV2 := Lib.hid hav2; have HB3 := Lib.hid (HB.out.trans (hb3.mono HB.out.size)); have K3 := Lib.hid (heap_later K0.out hb3 (by omega)); have F3 := Lib.hid (heap_later F0.out hb3 z1)
      obtain ⟨xa, xn, xc, rfl⟩ : ∃ a n c, av = .slice a n c := by obtain ⟨a, c, h⟩ := hav2.slice; exact ⟨_, _, _, h⟩
      clear hn hav2 hb2 hb3 y0 l0 l1 l2 l3 l4
      go_wp2
      go_roundw
      case rel => exact ⟨k + 1, by omega, by go_num, HAV2.out, K3.out, F3.out, HB3.out⟩
      case measure => simp [intOf]; omega
    · have hk2 : k = why.length := by omega
      subst hk2
      rw [List.take_length] at hav hS hwl2
      have c1 : wr.cell? ⟨w.heap.size, 1, none⟩ = some (.slice ra p.rules.length rc) := by rw [cell_of_row _ _ _ _ _ _ k0]; rfl
      have d0 : wr.cell? ⟨w.heap.size + 1, 0, none⟩ = some (.int .i64 v) := by rw [cell_of_row _ _ _ _ _ _ f0]; rfl
      have d1 : wr.cell? ⟨w.heap.size + 1, 1, none⟩ = some (.int .i64 e) := by rw [cell_of_row _ _ _ _ _ _ f0]; rfl
      have d2 : wr.cell? ⟨w.heap.size + 1, 2, none⟩ = some (.bool inn) := by rw [cell_of_row _ _ _ _ _ _ f0]; rfl
      have d3 : wr.cell? ⟨w.heap.size + 1, 3, none⟩ = some (.int .i64 j) := by rw [cell_of_row _ _ _ _ _ _ f0]; rfl
      have d4 : wr.cell? ⟨w.heap.size + 1, 4, none⟩ = some (.slice ya yn yc) := by rw [cell_of_row _ _ _ _ _ _ f0]; rfl
      obtain ⟨rb, ro, vv, hra, hrb, hvv, q0, q1, q2, q3⟩ := (HRV.out.below hb hB).cells hj
      subst hra
      obtain ⟨va, vc, rfl⟩ := hvv.slice
      obtain ⟨b, hbe⟩ : ∃ b, b = whyB l p.bounds why := ⟨_, rfl⟩
      rw [← hbe] at hav hS hwl2
      have hav2 : Bnds wr wr.heap.size (.slice aa b.length ac) b := by rw [hwl2]; exact hav
      have HEX : Hid (explN p l v e j inn why = (clashB b || !possB (withB b v e (!inn)) (rget p.rules j))) := Lib.hid (by rw [hbe]; rfl)
      have z0 : w.heap.size < wr.heap.size := by omega
      have zr : rb < wr.heap.size := by omega
      have HCL := Lib.hid (fun (d : Nat) (os : Array Obj) => refClash_any b _ (Go.Sort.grow (redrawn wr d) os) (hav2.below (below_regrown wr d os) (Nat.le_refl _)) (below_regrown wr d os).size hS.u64)
      have HFO := Lib.hid (fun (d : Nat) (os : Array Obj) => refFollows_any b hS (rget p.rules j) (HFIT.out.2.2.2.1 j hj) (fun i hi => by rw [hwl2]; exact probOk_range HPO.out j hj i hi) (by omega) v e (by omega) he inn j ya yn yc _ _ (Go.Sort.grow (redrawn wr d) os) ((hvv.mono (show B ≤ wr.heap.size by have := hb.size; omega)).below (below_regrown wr d os) (Nat.le_refl _)) (hav2.below (below_regrown wr d os) (Nat.le_refl _)) (below_regrown wr d os).size)
      rw [hwl2] at HCL HFO
      have HB := Lib.hid hb
      clear hav hS hwl2 k0 f0 hb hvv hbe hav2
      cases hc : clashB b
      case true =>
        have HC : Hid (explN p l v e j inn why = true) := Lib.hid (by rw [HEX.out, hc]; rfl)
        rw [hc] at HCL
        clear hc
        go_wp2_with fail
        refine wp_region_qb (by kernel_rfl) (by kernel_rfl) ?_
        repeat go_big_quiet_step ((first | (with_reducible exact Gives.quiet (HCL.out _ _)) | (with_reducible exact Gives.quiet (HFO.out _ _))))
        refine wpQuiet_nil ?_
        intro w4 hb4
        have HB4 := Lib.hid (HB.out.trans (hb4.mono HB.out.size))
        clear hb4
        go_wp2
        go_ret
        exact ⟨by rw [HC.out]; rfl, HB4.out⟩
      case false =>
        have HC : Hid (explN p l v e j inn why = !possB (withB b v e (!inn)) (rget p.rules j)) := Lib.hid (by rw [HEX.out, hc]; rfl)
        rw [hc] at HCL
        clear hc
        go_wp2_with fail
        refine wp_region_qb (by kernel_rfl) (by kernel_rfl) ?_
        repeat go_big_quiet_step ((first | (with_reducible exact Gives.quiet (HCL.out _ _)) | (with_reducible exact Gives.quiet (HFO.out _ _))))
        refine wpQuiet_nil ?_
        intro w4 hb4
        have HB4 := Lib.hid (HB.out.trans (hb4.mono HB.out.size))
        clear hb4
        go_wp2
        go_ret
        exact ⟨by rw [HC.out]; rfl, HB4.out⟩
end Go.Proofs.YtilbbnjfaoldoaaDoor
