/- The reference: right, Wrong, SmallProof. -/
import Derived.Test.YtilbbnjfaoldoaaDoorRefK
import Derived.Test.YtilbbnjfaoldoaaDoorLawB
namespace Go.Proofs.YtilbbnjfaoldoaaDoor
open Go Go.RowKit
attribute [local go_sem] cell_grow u64_sAnd u64_sOr u64_sDiff sDiff_all zeqI zneI sAnd_bit_zero sAnd_bit_zeroN sAnd_bit_nonzero rowOf_grow rowOk_grow rowOf_alloc rowOk_alloc

theorem about_nat2 {p : Prob} {fv fe fr : Int} {fi : Bool} {fw : List Int} (hp : probOk p = true) (h : aboutB p ⟨fv, fe, fi, fr, fw⟩ = true) : ∃ j v e : Nat, fr = j ∧ j < p.rules.length ∧ fv = v ∧ v < p.bounds.length ∧ fe = e ∧ e < 12 := by
  have h2 : askedN p fv fe fr 0 = true := by
    unfold aboutB at h
    unfold askedN
    rw [h]; rfl
  obtain ⟨j, v, e, h1, h2, h3, h4, h5, h6, _⟩ := askedN_nat hp h2
  exact ⟨j, v, e, h1, h2, h3, h4, h5, h6⟩
theorem dupF_yes {l : List Fact} {f : Fact} {k : Nat} (hk : k < l.length) (h : sameF (fget l k) f = true) : dupF l f = true := by
  unfold dupF; rw [List.any_eq_true]; exact ⟨k, List.mem_range.2 hk, h⟩
theorem dupF_no {l : List Fact} {f : Fact} (h : ∀ j, j < l.length → sameF (fget l j) f = false) : dupF l f = false := by
  unfold dupF; rw [Bool.eq_false_iff]; intro hc
  obtain ⟨x, hx, hs⟩ := List.any_eq_true.1 hc
  rw [h x (List.mem_range.1 hx)] at hs; cases hs
set_option maxRecDepth 100000 in
set_option maxHeartbeats 4000000 in
theorem refRight_any (p : Prob) (hpo : probOk p = true) (l : List Fact) (hl : ∀ i, i < l.length → FitN p.bounds.length (fget l i)) (fv fe : Int) (fi : Bool) (fr : Int) (fw : List Int)
    (bv rv lv yv : Value) (w : World) {B : Nat} (hbv : Bnds w B bv p.bounds) (hrv : Rls w B rv p.rules) (hlv : Fcts w B lv l) (hyv : Ints w B yv fw) (hB : B ≤ w.heap.size) :
    Gives Tryd.prog 82 #[.agg #[bv, rv], lv, .agg #[.int .i64 fv, .int .i64 fe, .bool fi, .int .i64 fr, yv]] w (.bool (rightB p l ⟨fv, fe, fi, fr, fw⟩)) := by
  unfold Gives
  have HBV := Lib.hid hbv; have HRV := Lib.hid hrv; have HLV := Lib.hid hlv; have HYV := Lib.hid hyv; have HL := Lib.hid hl; have HPO := Lib.hid hpo
  have hbl := hbv.1
  have hrl := hrv.len
  have hll := hlv.len
  have hyl := hyv.1
  obtain ⟨ba, bc, rfl⟩ := hbv.slice
  obtain ⟨ra, rc, rfl⟩ := hrv.slice
  obtain ⟨la, lc, rfl⟩ := hlv.slice
  obtain ⟨ya, yc, rfl⟩ := hyv.slice
  clear hbv hrv hlv hyv hl hpo
  have hn2 := heap_new2 w (.cells #[.slice ba p.bounds.length bc, .slice ra p.rules.length rc] 25) (.cells #[.int .i64 fv, .int .i64 fe, .bool fi, .int .i64 fr, .slice ya fw.length yc] 56)
  have K0 := Lib.hid hn2.1; have F0 := Lib.hid hn2.2
  have HB0 := Lib.hid (Below.new2 w (.cells #[.slice ba p.bounds.length bc, .slice ra p.rules.length rc] 25) (.cells #[.int .i64 fv, .int .i64 fe, .bool fi, .int .i64 fr, .slice ya fw.length yc] 56))
  clear hn2
  obtain ⟨b1, hb1⟩ : ∃ b1, inB fr 0 ((p.rules.length : Int) - 1) = b1 := ⟨_, rfl⟩
  cases b1
  case false =>
    have HN : Hid (rightB p l ⟨fv, fe, fi, fr, fw⟩ = false) := Lib.hid (by unfold rightB aboutB; rw [hb1]; rfl)
    have HI := Lib.hid (fun (V : World) => hb1 ▸ in_any fr 0 ((p.rules.length : Int) - 1) V)
    clear hb1
    go_enter Tryd.func82, Tryd.ntmps82
    go_upto_region 1 with fail
    refine abs_wp (fun wr => wr.heap[w.heap.size]? = some (.cells #[.slice ba p.bounds.length bc, .slice ra p.rules.length rc] 25 (0, 0)) ∧ wr.heap[w.heap.size + 1]? = some (.cells #[.int .i64 fv, .int .i64 fe, .bool fi, .int .i64 fr, .slice ya fw.length yc] 56 (0, 0)) ∧ Below w.heap.size w wr) ⟨K0.out, F0.out, HB0.out⟩ ?_
    clear K0 F0 HB0
    rintro W ⟨k0, f0, hb⟩
    have z0 : w.heap.size < W.heap.size := (Array.getElem?_eq_some_iff.1 k0).1
    have z1 : w.heap.size + 1 < W.heap.size := (Array.getElem?_eq_some_iff.1 f0).1
    have c1 : W.cell? ⟨w.heap.size, 1, none⟩ = some (.slice ra p.rules.length rc) := by rw [cell_of_row _ _ _ _ _ _ k0]; rfl
    have d3 : W.cell? ⟨w.heap.size + 1, 3, none⟩ = some (.int .i64 fr) := by rw [cell_of_row _ _ _ _ _ _ f0]; rfl
    have HI2 := Lib.hid (fun (d : Nat) (os : Array Obj) => Gives.of_same (HI.out (Go.Sort.grow (redrawn W d) os)))
    have HB := Lib.hid hb
    clear k0 f0 hb HI
    refine wp_region_qb (by kernel_rfl) (by kernel_rfl) ?_
    repeat go_big_quiet_step ((with_reducible exact Gives.quiet (HI2.out _ _)))
    refine wpQuiet_nil ?_
    intro w4 hb4
    have HB4 := Lib.hid (HB.out.trans (hb4.mono HB.out.size))
    clear hb4
    go_wp2
    go_ret
    exact ⟨by rw [HN.out]; rfl, HB4.out⟩
  case true =>
    obtain ⟨j, hj, hj2⟩ := inB_nat hb1
    subst hj
    have hjl : j < p.rules.length := by omega
    obtain ⟨b2, hb2⟩ : ∃ b2, ihas (rget p.rules j).vars fv = b2 := ⟨_, rfl⟩
    obtain ⟨b3, hb3⟩ : ∃ b3, inB fe 0 11 = b3 := ⟨_, rfl⟩
    have HAB : Hid (aboutB p ⟨fv, fe, fi, j, fw⟩ = (b2 && b3)) := Lib.hid (by unfold aboutB; rw [hb1]; simp only [Int.toNat_natCast, Bool.true_and]; rw [hb2, hb3])
    have HI := Lib.hid (fun (V : World) => hb1 ▸ in_any (j : Int) 0 ((p.rules.length : Int) - 1) V)
    have HI3 := Lib.hid (fun (V : World) => hb3 ▸ in_any fe 0 11 V)
    have HP2 := Lib.hid hb2
    clear hb1 hb2 hb3 hj2
    go_enter Tryd.func82, Tryd.ntmps82
    go_upto_region 1 with fail
    refine abs_wp (fun wr => wr.heap[w.heap.size]? = some (.cells #[.slice ba p.bounds.length bc, .slice ra p.rules.length rc] 25 (0, 0)) ∧ wr.heap[w.heap.size + 1]? = some (.cells #[.int .i64 fv, .int .i64 fe, .bool fi, .int .i64 j, .slice ya fw.length yc] 56 (0, 0)) ∧ Below w.heap.size w wr) ⟨K0.out, F0.out, HB0.out⟩ ?_
    clear K0 F0 HB0
    rintro W ⟨k0, f0, hb⟩
    have z0 : w.heap.size < W.heap.size := (Array.getElem?_eq_some_iff.1 k0).1
    have z1 : w.heap.size + 1 < W.heap.size := (Array.getElem?_eq_some_iff.1 f0).1
    have c1 : W.cell? ⟨w.heap.size, 1, none⟩ = some (.slice ra p.rules.length rc) := by rw [cell_of_row _ _ _ _ _ _ k0]; rfl
    have d0 : W.cell? ⟨w.heap.size + 1, 0, none⟩ = some (.int .i64 fv) := by rw [cell_of_row _ _ _ _ _ _ f0]; rfl
    have d1 : W.cell? ⟨w.heap.size + 1, 1, none⟩ = some (.int .i64 fe) := by rw [cell_of_row _ _ _ _ _ _ f0]; rfl
    have d3 : W.cell? ⟨w.heap.size + 1, 3, none⟩ = some (.int .i64 j) := by rw [cell_of_row _ _ _ _ _ _ f0]; rfl
    obtain ⟨rb, ro, vv, hra, hrb, hvv, q0, q1, q2, q3⟩ := (HRV.out.below hb hB).cells hjl
    subst hra
    obtain ⟨va, vc, rfl⟩ := hvv.slice
    have zr : rb < W.heap.size := by omega
    have HI2 := Lib.hid (fun (d : Nat) (os : Array Obj) => Gives.of_same (HI.out (Go.Sort.grow (redrawn W d) os)))
    have HI4 := Lib.hid (fun (d : Nat) (os : Array Obj) => Gives.of_same (HI3.out (Go.Sort.grow (redrawn W d) os)))
    have HPL := Lib.hid (fun (d : Nat) (os : Array Obj) => HP2.out ▸ refPlace_any (rget p.rules j) fv _ (Go.Sort.grow (redrawn W d) os) ((hvv.mono (show B ≤ W.heap.size by have := hb.size; omega)).below (below_regrown W d os) (Nat.le_refl _)) (below_regrown W d os).size)
    have HB := Lib.hid hb; have K0 := Lib.hid k0; have F0 := Lib.hid f0
    clear k0 f0 hb HI HI3 hvv
    cases b2
    case false =>
      have HN : Hid (rightB p l ⟨fv, fe, fi, j, fw⟩ = false) := Lib.hid (by unfold rightB; rw [HAB.out]; rfl)
      refine wp_region_qb (by kernel_rfl) (by kernel_rfl) ?_
      repeat go_big_quiet_step ((first | (with_reducible exact Gives.quiet (HI2.out _ _)) | (with_reducible exact Gives.quiet (HPL.out _ _)) | (with_reducible exact Gives.quiet (HI4.out _ _))))
      refine wpQuiet_nil ?_
      intro w4 hb4
      have HB4 := Lib.hid (HB.out.trans (hb4.mono HB.out.size))
      clear hb4
      go_wp2
      go_ret
      exact ⟨by rw [HN.out]; rfl, HB4.out⟩
    case true =>
      cases b3
      case false =>
        have HN : Hid (rightB p l ⟨fv, fe, fi, j, fw⟩ = false) := Lib.hid (by unfold rightB; rw [HAB.out]; rfl)
        refine wp_region_qb (by kernel_rfl) (by kernel_rfl) ?_
        repeat go_big_quiet_step ((first | (with_reducible exact Gives.quiet (HI2.out _ _)) | (with_reducible exact Gives.quiet (HPL.out _ _)) | (with_reducible exact Gives.quiet (HI4.out _ _))))
        refine wpQuiet_nil ?_
        intro w4 hb4
        have HB4 := Lib.hid (HB.out.trans (hb4.mono HB.out.size))
        clear hb4
        go_wp2
        go_ret
        exact ⟨by rw [HN.out]; rfl, HB4.out⟩
      case true =>
        refine wp_region_qb (by kernel_rfl) (by kernel_rfl) ?_
        repeat go_big_quiet_step ((first | (with_reducible exact Gives.quiet (HI2.out _ _)) | (with_reducible exact Gives.quiet (HPL.out _ _)) | (with_reducible exact Gives.quiet (HI4.out _ _))))
        refine wpQuiet_nil ?_
        intro w4 hb4
        have HB4 := Lib.hid (HB.out.trans (hb4.mono HB.out.size)); have K4 := Lib.hid (heap_later K0.out hb4 z0); have F4 := Lib.hid (heap_later F0.out hb4 z1)
        clear hb4 K0 F0 HB HI2 HI4 HPL HP2 c1 d0 d1 d3 q0 q1 q2 q3 z0 z1 zr
        go_wp2_with fail
        go_loopw [7] (fun i wr => ∃ k : Nat, k ≤ l.length ∧ i = .int .i64 k ∧ (∀ q, q < k → sameF (fget l q) ⟨fv, fe, fi, j, fw⟩ = false) ∧ wr.heap[w.heap.size]? = some (.cells #[.slice ba p.bounds.length bc, .slice (some ⟨rb, ro, none⟩) p.rules.length rc] 25 (0, 0)) ∧ wr.heap[w.heap.size + 1]? = some (.cells #[.int .i64 fv, .int .i64 fe, .bool fi, .int .i64 j, .slice ya fw.length yc] 56 (0, 0)) ∧ Below w.heap.size w wr) (fun i _ => l.length - (intOf i).toNat)
        case atStart => exact ⟨0, Nat.zero_le _, rfl, fun j hj => absurd hj (Nat.not_lt_zero _), K4.out, F4.out, HB4.out⟩
        case round =>
          clear K4 F4 HB4
          obtain ⟨k, hk, rfl, hall, k0, f0, hb⟩ := hrel
          have z0 : w.heap.size < wr.heap.size := (Array.getElem?_eq_some_iff.1 k0).1
          have z1 : w.heap.size + 1 < wr.heap.size := (Array.getElem?_eq_some_iff.1 f0).1
          have d0 : wr.cell? ⟨w.heap.size + 1, 0, none⟩ = some (.int .i64 fv) := by rw [cell_of_row _ _ _ _ _ _ f0]; rfl
          have d1 : wr.cell? ⟨w.heap.size + 1, 1, none⟩ = some (.int .i64 fe) := by rw [cell_of_row _ _ _ _ _ _ f0]; rfl
          have d2 : wr.cell? ⟨w.heap.size + 1, 2, none⟩ = some (.bool fi) := by rw [cell_of_row _ _ _ _ _ _ f0]; rfl
          have d4 : wr.cell? ⟨w.heap.size + 1, 4, none⟩ = some (.slice ya fw.length yc) := by rw [cell_of_row _ _ _ _ _ _ f0]; rfl
          have HALL := Lib.hid hall; have K0 := Lib.hid k0; have F0 := Lib.hid f0; have HB := Lib.hid hb
          clear hall k0 f0 hb
          by_cases hlt : k < l.length
          · obtain ⟨lb, lo, ov, rfl, hlb, hov, l0, l1, l2, l3, l4⟩ := (HLV.out.below HB.out hB).cells hlt
            have zl : lb < wr.heap.size := by omega
            clear l3 l4 hov d4
            obtain ⟨s1, h1⟩ : ∃ s1, ((fget l k).var == fv) = s1 := ⟨_, rfl⟩
            obtain ⟨s2, h2⟩ : ∃ s2, ((fget l k).elem == fe) = s2 := ⟨_, rfl⟩
            obtain ⟨s3, h3⟩ : ∃ s3, ((fget l k).inn == fi) = s3 := ⟨_, rfl⟩
            have HSF : Hid (sameF (fget l k) ⟨fv, fe, fi, j, fw⟩ = (s1 && s2 && s3)) := Lib.hid (by unfold sameF; rw [← h1, ← h2, ← h3])
            cases s1
            case false =>
              go_wp2_with fail
              refine wp_region_qb (by kernel_rfl) (by kernel_rfl) ?_
              repeat go_big_quiet_step (fail)
              refine wpQuiet_nil ?_
              intro w5 hb5
              have HB5 := Lib.hid (HB.out.trans (hb5.mono HB.out.size)); have K5 := Lib.hid (heap_later K0.out hb5 z0); have F5 := Lib.hid (heap_later F0.out hb5 z1)
              clear hb5 h1 h2 h3
              go_wp2
              go_roundw
              case rel => exact ⟨k + 1, by omega, by go_num, fun j hj => if h : j = k then h ▸ HSF.out else HALL.out j (by omega), K5.out, F5.out, HB5.out⟩
              case measure => simp [intOf]; omega
            case true =>
              cases s2
              case false =>
                go_wp2_with fail
                refine wp_region_qb (by kernel_rfl) (by kernel_rfl) ?_
                repeat go_big_quiet_step (fail)
                refine wpQuiet_nil ?_
                intro w5 hb5
                have HB5 := Lib.hid (HB.out.trans (hb5.mono HB.out.size)); have K5 := Lib.hid (heap_later K0.out hb5 z0); have F5 := Lib.hid (heap_later F0.out hb5 z1)
                clear hb5 h1 h2 h3
                go_wp2
                go_roundw
                case rel => exact ⟨k + 1, by omega, by go_num, fun j hj => if h : j = k then h ▸ HSF.out else HALL.out j (by omega), K5.out, F5.out, HB5.out⟩
                case measure => simp [intOf]; omega
              case true =>
                cases s3
                case false =>
                  go_wp2_with fail
                  refine wp_region_qb (by kernel_rfl) (by kernel_rfl) ?_
                  repeat go_big_quiet_step (fail)
                  refine wpQuiet_nil ?_
                  intro w5 hb5
                  have HB5 := Lib.hid (HB.out.trans (hb5.mono HB.out.size)); have K5 := Lib.hid (heap_later K0.out hb5 z0); have F5 := Lib.hid (heap_later F0.out hb5 z1)
                  clear hb5 h1 h2 h3
                  go_wp2
                  go_roundw
                  case rel => exact ⟨k + 1, by omega, by go_num, fun j hj => if h : j = k then h ▸ HSF.out else HALL.out j (by omega), K5.out, F5.out, HB5.out⟩
                  case measure => simp [intOf]; omega
                case true =>
                  have HN : Hid (rightB p l ⟨fv, fe, fi, j, fw⟩ = false) := Lib.hid (by unfold rightB; rw [dupF_yes hlt HSF.out]; simp)
                  go_wp2_with fail
                  refine wp_region_qb (by kernel_rfl) (by kernel_rfl) ?_
                  repeat go_big_quiet_step (fail)
                  refine wpQuiet_nil ?_
                  intro w5 hb5
                  have HB5 := Lib.hid (HB.out.trans (hb5.mono HB.out.size))
                  clear hb5 h1 h2 h3
                  go_wp2
                  go_ret
                  exact ⟨by rw [HN.out]; rfl, HB5.out⟩
          · have hk2 : k = l.length := by omega
            subst hk2
            have HDU := Lib.hid (dupF_no HALL.out)
            clear HALL d0 d1 d2
            go_wp2_with fail
            go_loopw [8] (fun i wr => ∃ k : Nat, k ≤ fw.length ∧ i = .int .i64 k ∧ (∀ q, q < k → whyAt l.length fw q = true) ∧ wr.heap[w.heap.size]? = some (.cells #[.slice ba p.bounds.length bc, .slice (some ⟨rb, ro, none⟩) p.rules.length rc] 25 (0, 0)) ∧ wr.heap[w.heap.size + 1]? = some (.cells #[.int .i64 fv, .int .i64 fe, .bool fi, .int .i64 j, .slice ya fw.length yc] 56 (0, 0)) ∧ Below w.heap.size w wr) (fun i _ => fw.length - (intOf i).toNat)
            case atStart => exact ⟨0, Nat.zero_le _, rfl, fun j hj => absurd hj (Nat.not_lt_zero _), K0.out, F0.out, HB.out⟩
            case round =>
              clear K0 F0 HB d4 z0 z1
              obtain ⟨k, hk, rfl, hall, k0, f0, hb⟩ := hrel
              have z0 : w.heap.size < wr.heap.size := (Array.getElem?_eq_some_iff.1 k0).1
              have z1 : w.heap.size + 1 < wr.heap.size := (Array.getElem?_eq_some_iff.1 f0).1
              have c0 : wr.cell? ⟨w.heap.size, 0, none⟩ = some (.slice ba p.bounds.length bc) := by rw [cell_of_row _ _ _ _ _ _ k0]; rfl
              have c1 : wr.cell? ⟨w.heap.size, 1, none⟩ = some (.slice (some ⟨rb, ro, none⟩) p.rules.length rc) := by rw [cell_of_row _ _ _ _ _ _ k0]; rfl
              have d0 : wr.cell? ⟨w.heap.size + 1, 0, none⟩ = some (.int .i64 fv) := by rw [cell_of_row _ _ _ _ _ _ f0]; rfl
              have d1 : wr.cell? ⟨w.heap.size + 1, 1, none⟩ = some (.int .i64 fe) := by rw [cell_of_row _ _ _ _ _ _ f0]; rfl
              have d2 : wr.cell? ⟨w.heap.size + 1, 2, none⟩ = some (.bool fi) := by rw [cell_of_row _ _ _ _ _ _ f0]; rfl
              have d3 : wr.cell? ⟨w.heap.size + 1, 3, none⟩ = some (.int .i64 j) := by rw [cell_of_row _ _ _ _ _ _ f0]; rfl
              have d4 : wr.cell? ⟨w.heap.size + 1, 4, none⟩ = some (.slice ya fw.length yc) := by rw [cell_of_row _ _ _ _ _ _ f0]; rfl
              have HALL := Lib.hid hall; have K0 := Lib.hid k0; have F0 := Lib.hid f0; have HB := Lib.hid hb
              clear hall k0 f0 hb
              by_cases hlt : k < fw.length
              · clear c0 c1 d0 d1 d2 d3
                obtain ⟨_, a', cap', hae, _, _, hrow⟩ := HYV.out.below HB.out hB
                cases hae
                obtain ⟨yb, yo, rfl, hyb, hycell⟩ := hrow (by omega)
                have y0 : wr.cell? ⟨yb, yo + k, none⟩ = some (.int .i64 (iget fw k)) := hycell k (by omega)
                have zy : yb < wr.heap.size := by omega
                obtain ⟨b1, hb1⟩ : ∃ b1, inB (iget fw k) 0 ((l.length : Int) - 1) = b1 := ⟨_, rfl⟩
                have HI := Lib.hid (fun (d : Nat) (os : Array Obj) => Gives.of_same (hb1 ▸ in_any (iget fw k) 0 ((l.length : Int) - 1) (Go.Sort.grow (redrawn wr d) os)))
                cases b1
                case false =>
                  have HN : Hid (rightB p l ⟨fv, fe, fi, j, fw⟩ = false) := Lib.hid (by
                    unfold rightB
                    rw [whyOk_no hlt (by unfold whyAt; rw [hb1]; rfl)]; simp)
                  clear hb1 hycell hrow
                  go_wp2_with fail
                  refine wp_region_qb (by kernel_rfl) (by kernel_rfl) ?_
                  repeat go_big_quiet_step ((with_reducible exact Gives.quiet (HI.out _ _)))
                  refine wpQuiet_nil ?_
                  intro w5 hb5
                  have HB5 := Lib.hid (HB.out.trans (hb5.mono HB.out.size))
                  clear hb5
                  go_wp2
                  go_ret
                  exact ⟨by rw [HN.out]; rfl, HB5.out⟩
                case true =>
                  by_cases hk0 : 0 < k
                  · have y1 : wr.cell? ⟨yb, yo + (k - 1), none⟩ = some (.int .i64 (iget fw (k - 1))) := hycell (k - 1) (by omega)
                    obtain ⟨b2, hb2⟩ : ∃ b2, decide (iget fw k ≤ iget fw (k - 1)) = b2 := ⟨_, rfl⟩
                    obtain ⟨q, hq⟩ : ∃ q, k = q + 1 := ⟨k - 1, by omega⟩
                    subst hq
                    simp only [Nat.add_sub_cancel] at y1 hb2
                    have hql : q < fw.length := by omega
                    have hki : decide ((0 : Int) < ((q + 1 : Nat) : Int)) = true := by rw [decide_eq_true_eq]; omega
                    have hWA : whyAt l.length fw (q + 1) = !b2 := by unfold whyAt; rw [hb1]; simp only [Nat.add_sub_cancel]; rw [hb2]; simp
                    cases b2
                    case false =>
                      have HW : Hid (whyAt l.length fw (q + 1) = true) := Lib.hid hWA
                      clear hb1 hycell hrow hWA
                      go_wp2_with fail
                      refine wp_region_qb (by kernel_rfl) (by kernel_rfl) ?_
                      repeat go_big_quiet_step ((with_reducible exact Gives.quiet (HI.out _ _)))
                      refine wpQuiet_nil ?_
                      intro w5 hb5
                      have HB5 := Lib.hid (HB.out.trans (hb5.mono HB.out.size)); have K5 := Lib.hid (heap_later K0.out hb5 z0); have F5 := Lib.hid (heap_later F0.out hb5 z1)
                      clear hb5 hb2
                      go_wp2
                      go_roundw
                      case rel => exact ⟨q + 1 + 1, by omega, by go_num, fun j hj => if h : j = q + 1 then h ▸ HW.out else HALL.out j (by omega), K5.out, F5.out, HB5.out⟩
                      case measure => simp [intOf]; omega
                    case true =>
                      have HN : Hid (rightB p l ⟨fv, fe, fi, j, fw⟩ = false) := Lib.hid (by
                        unfold rightB
                        rw [whyOk_no hlt hWA]; simp)
                      clear hb1 hycell hrow hWA
                      go_wp2_with fail
                      refine wp_region_qb (by kernel_rfl) (by kernel_rfl) ?_
                      repeat go_big_quiet_step ((with_reducible exact Gives.quiet (HI.out _ _)))
                      refine wpQuiet_nil ?_
                      intro w5 hb5
                      have HB5 := Lib.hid (HB.out.trans (hb5.mono HB.out.size))
                      clear hb5 hb2
                      go_wp2
                      go_ret
                      exact ⟨by rw [HN.out]; rfl, HB5.out⟩
                  · have hk1 : k = 0 := by omega
                    subst hk1
                    have HW : Hid (whyAt l.length fw 0 = true) := Lib.hid (by unfold whyAt; rw [hb1]; rfl)
                    simp only [Nat.add_zero] at y0
                    clear hb1 hycell hrow
                    go_wp2_with fail
                    refine wp_region_qb (by kernel_rfl) (by kernel_rfl) ?_
                    repeat go_big_quiet_step ((with_reducible exact Gives.quiet (HI.out _ _)))
                    refine wpQuiet_nil ?_
                    intro w5 hb5
                    have HB5 := Lib.hid (HB.out.trans (hb5.mono HB.out.size)); have K5 := Lib.hid (heap_later K0.out hb5 z0); have F5 := Lib.hid (heap_later F0.out hb5 z1)
                    clear hb5
                    go_wp2
                    go_roundw
                    case rel => exact ⟨1, by omega, by go_num, fun j hj => (show j = 0 by omega) ▸ HW.out, K5.out, F5.out, HB5.out⟩
                    case measure => simp [intOf]; omega
              · have hk2 : k = fw.length := by omega
                subst hk2
                have hwhy := whyOk_yes HALL.out
                obtain ⟨j', v, e, hj', hjl', hv, hvl, he, he12⟩ := about_nat2 HPO.out HAB.out
                have hjj : j' = j := by omega
                subst hjj
                have hnat := whyOk_nat hwhy
                have HR : Hid (rightB p l ⟨fv, fe, fi, j', fw⟩ = explN p l v e j' fi fw) := Lib.hid (by
                  rw [expl_eq (probOk_fit HPO.out).2.1 HL.out hnat hvl, ← hv, ← he]
                  unfold rightB
                  rw [HAB.out, HDU.out, hwhy]; simp)
                have hrs := refReason_any p HPO.out l v e j' fi fw HL.out hnat hvl he12 hjl ya fw.length yc _ _ _ _ wr (HBV.out.below HB.out hB) (HRV.out.below HB.out hB) (HLV.out.below HB.out hB) (HYV.out.below HB.out hB) (Nat.le_trans hB HB.out.size)
                rw [← hv, ← he] at hrs
                have HRS := Lib.hid hrs
                clear hwhy hnat hrs hv he hj'
                go_wp2_with fail
                refine HRS.out.mono ?_
                rintro q w6 ⟨rfl, hb6⟩
                have HB6 := Lib.hid (HB.out.trans (hb6.mono HB.out.size))
                clear hb6
                go_wp2
                go_ret
                exact ⟨by rw [HR.out]; rfl, HB6.out⟩
theorem right_fit {p : Prob} {l : List Fact} {f : Fact} (hp : probOk p = true) (h : rightB p l f = true) : FitN p.bounds.length f := by
  obtain ⟨fv, fe, fi, fr, fw⟩ := f
  unfold rightB at h
  simp only [Bool.and_eq_true] at h
  obtain ⟨j, v, e, _, _, hv, hvl, he, he12⟩ := about_nat2 hp h.1.1.1
  exact ⟨v, e, hv, hvl, he, he12⟩
set_option maxRecDepth 100000 in
set_option maxHeartbeats 2000000 in
theorem refWrong_any (p : Prob) (hpo : probOk p = true) (l : List Fact) (bv rv lv : Value) (w : World) {B : Nat} (hbv : Bnds w B bv p.bounds) (hrv : Rls w B rv p.rules) (hlv : Fcts w B lv l) (hB : B ≤ w.heap.size) :
    Gives Tryd.prog 40 #[.agg #[bv, rv], lv] w (.int .i64 (verI p l)) := by
  unfold Gives
  have HBV := Lib.hid hbv; have HRV := Lib.hid hrv; have HLV := Lib.hid hlv; have HPO := Lib.hid hpo
  have hll := hlv.len
  obtain ⟨ba, bc, rfl⟩ := hbv.slice
  obtain ⟨ra, rc, rfl⟩ := hrv.slice
  obtain ⟨la, lc, rfl⟩ := hlv.slice
  have hcap : l.length ≤ lc := by obtain ⟨c, ⟨_, a', cap', hv, h, _⟩, _⟩ := HLV.out; cases hv; exact h
  clear hbv hrv hlv hpo
  have K0 := Lib.hid (heap_new0 w (.cells #[.slice ba p.bounds.length bc, .slice ra p.rules.length rc] 25)); have HB0 := Lib.hid (Below.new1 w (.cells #[.slice ba p.bounds.length bc, .slice ra p.rules.length rc] 25))
  go_enter Tryd.func40, Tryd.ntmps40
  go_wp2_with fail
  go_loopw [5] (fun i wr => ∃ k : Nat, k ≤ l.length ∧ i = .int .i64 k ∧ (∀ j, j < k → rightB p (l.take j) (fget l j) = true) ∧ wr.heap[w.heap.size]? = some (.cells #[.slice ba p.bounds.length bc, .slice ra p.rules.length rc] 25 (0, 0)) ∧ Below w.heap.size w wr) (fun i _ => l.length - (intOf i).toNat)
  case atStart => exact ⟨0, Nat.zero_le _, rfl, fun j hj => absurd hj (Nat.not_lt_zero _), K0.out, HB0.out⟩
  case round =>
    clear K0 HB0
    obtain ⟨k, hk, rfl, hall, k0, hb⟩ := hrel
    have z0 : w.heap.size < wr.heap.size := (Array.getElem?_eq_some_iff.1 k0).1
    have c0 : wr.cell? ⟨w.heap.size, 0, none⟩ = some (.slice ba p.bounds.length bc) := by rw [cell_of_row _ _ _ _ _ _ k0]; rfl
    have c1 : wr.cell? ⟨w.heap.size, 1, none⟩ = some (.slice ra p.rules.length rc) := by rw [cell_of_row _ _ _ _ _ _ k0]; rfl
    have K0 := Lib.hid k0; have HB := Lib.hid hb; have HALL := Lib.hid hall
    clear k0 hb hall
    by_cases hlt : k < l.length
    · obtain ⟨lb, lo, ov, hla, hlb, hov, l0, l1, l2, l3, l4⟩ := (HLV.out.below HB.out hB).cells hlt
      subst hla
      obtain ⟨oa, oc, rfl⟩ := hov.slice
      have zl : lb < wr.heap.size := by omega
      have hfit : ∀ i, i < (l.take k).length → FitN p.bounds.length (fget (l.take k) i) := fun i hi => by
        have hik : i < k := by simp at hi; omega
        rw [fget_take hik]
        exact right_fit HPO.out (HALL.out i hik)
      obtain ⟨rr, hrr⟩ : ∃ rr, rightB p (l.take k) (fget l k) = rr := ⟨_, rfl⟩
      obtain ⟨ff, hff⟩ : ∃ ff, ff = fget l k := ⟨_, rfl⟩
      rw [← hff] at hrr hov l0 l1 l2 l3 l4
      have htk : (l.take k).length = k := by simp; omega
      have HRT := Lib.hid (fun (d : Nat) (os : Array Obj) => hrr ▸ refRight_any p HPO.out (l.take k) hfit ff.var ff.elem ff.inn ff.rule ff.why _ _ _ _ (Go.Sort.grow (redrawn wr d) os) (HBV.out.below (below_grow HB.out d os) hB) (HRV.out.below (below_grow HB.out d os) hB) ((HLV.out.below (below_grow HB.out d os) hB).take (by omega)) (hov.below (below_regrown wr d os) (show B ≤ wr.heap.size by omega)) (Nat.le_trans hB (below_grow HB.out d os).size))
      have HOV := Lib.hid hov; have HRR := Lib.hid hrr; have HFF := Lib.hid hff
      clear hov hrr hff hfit htk
      cases rr
      case false =>
        have HV : Hid (verI p l = k) := Lib.hid (by
          unfold verI
          exact idxOf_some hlt (fun j hj => by rw [HALL.out j hj]; rfl) (by rw [← HFF.out, HRR.out]; rfl))
        go_wp2_with fail
        refine wp_region_qb (by kernel_rfl) (by kernel_rfl) ?_
        repeat go_big_quiet_step ((with_reducible exact Gives.quiet (HRT.out _ _)))
        refine wpQuiet_nil ?_
        intro w4 hb4
        have HB4 := Lib.hid (HB.out.trans (hb4.mono HB.out.size))
        clear hb4
        go_wp2
        go_ret
        exact ⟨by rw [HV.out]; rfl, HB4.out⟩
      case true =>
        have HT : Hid (rightB p (l.take k) (fget l k) = true) := Lib.hid (by rw [← HFF.out]; exact HRR.out)
        go_wp2_with fail
        refine wp_region_qb (by kernel_rfl) (by kernel_rfl) ?_
        repeat go_big_quiet_step ((with_reducible exact Gives.quiet (HRT.out _ _)))
        refine wpQuiet_nil ?_
        intro w4 hb4
        have HB4 := Lib.hid (HB.out.trans (hb4.mono HB.out.size)); have K4 := Lib.hid (heap_later K0.out hb4 z0)
        clear hb4
        go_wp2
        go_roundw
        case rel => exact ⟨k + 1, by omega, by go_num, fun j hj => if h : j = k then h ▸ HT.out else HALL.out j (by omega), K4.out, HB4.out⟩
        case measure => simp [intOf]; omega
    · have hk2 : k = l.length := by omega
      subst hk2
      have HV : Hid (verI p l = -1) := Lib.hid (by unfold verI; exact idxOf_none fun j hj => by rw [HALL.out j hj]; rfl)
      go_wp2
      go_ret
      exact ⟨by rw [HV.out]; rfl, HB.out⟩
def smallProofOk (l : List Fact) : Bool := decide (l.length ≤ 110) && (List.range l.length).all fun i => decide ((fget l i).why.length ≤ 110)
set_option maxRecDepth 100000 in
set_option maxHeartbeats 1000000 in
theorem smallProof_any (l : List Fact) (lv : Value) (w : World) {B : Nat} (hlv : Fcts w B lv l) :
    Gives Tryd.prog 38 #[lv] w (.bool (smallProofOk l)) := by
  unfold Gives
  have HLV := Lib.hid hlv
  have hll := hlv.len
  obtain ⟨la, lc, rfl⟩ := hlv.slice
  clear hlv
  by_cases h0 : l.length ≤ 110
  · have h0i : ¬ (110 : Int) < ((l.length : Nat) : Int) := by omega
    go_enter Tryd.func38, Tryd.ntmps38
    go_wp2_with fail
    go_loop [3] (fun i => ∃ k : Nat, k ≤ l.length ∧ i = .int .i64 k ∧ (∀ j, j < k → (fget l j).why.length ≤ 110)) (fun i => l.length - (intOf i).toNat)
    case atStart => exact ⟨0, Nat.zero_le _, rfl, fun j hj => absurd hj (Nat.not_lt_zero _)⟩
    case round =>
      obtain ⟨k, hk, rfl, hall⟩ := hrel
      have HALL := Lib.hid hall
      clear hall
      by_cases hlt : k < l.length
      · obtain ⟨lb, lo, ov, rfl, hlb, hov, l0, l1, l2, l3, l4⟩ := HLV.out.cells hlt
        obtain ⟨oa, oc, rfl⟩ := hov.slice
        have hvl := hov.1
        clear l0 l1 l2 l3 hov
        by_cases h5 : (fget l k).why.length ≤ 110
        · have HS := Lib.hid h5
          have h5i : ¬ (110 : Int) < (((fget l k).why.length : Nat) : Int) := by omega
          go_wp2
          go_round
          case rel => exact ⟨k + 1, by omega, by go_num, fun j hj => if h : j = k then h ▸ HS.out else HALL.out j (by omega)⟩
          case measure => simp [intOf]; omega
        · have HN : Hid (smallProofOk l = false) := Lib.hid (by
            have : ((List.range l.length).all fun i => decide ((fget l i).why.length ≤ 110)) = false := by
              rw [Bool.eq_false_iff]; intro hc
              have := List.all_eq_true.1 hc k (List.mem_range.2 hlt)
              simp at this; omega
            unfold smallProofOk; rw [this, Bool.and_false])
          have h5i : (110 : Int) < (((fget l k).why.length : Nat) : Int) := by omega
          go_wp2
          go_ret
          exact ⟨by rw [HN.out]; rfl, Below.refl _ _⟩
      · have hk2 : k = l.length := by omega
        subst hk2
        have HY : Hid (smallProofOk l = true) := Lib.hid (by
          unfold smallProofOk
          rw [decide_eq_true h0, Bool.true_and, List.all_eq_true]
          exact fun i hi => decide_eq_true (HALL.out i (List.mem_range.1 hi)))
        go_wp2
        go_ret
        exact ⟨by rw [HY.out]; rfl, Below.refl _ _⟩
  · have HN : Hid (smallProofOk l = false) := Lib.hid (by unfold smallProofOk; rw [decide_eq_false h0]; simp)
    have h0i : (110 : Int) < ((l.length : Nat) : Int) := by omega
    go_enter Tryd.func38, Tryd.ntmps38
    go_wp2
    go_ret
    exact ⟨by rw [HN.out]; rfl, Below.refl _ _⟩
end Go.Proofs.YtilbbnjfaoldoaaDoor
