/- The reference: Solve. -/
import Derived.Test.YtilbbnjfaoldoaaDoorRefP
namespace Go.Proofs.YtilbbnjfaoldoaaDoor
open Go Go.RowKit
attribute [local go_sem] cell_grow u64_sAnd u64_sOr u64_sDiff sDiff_all zeqI zneI sAnd_bit_zero sAnd_bit_zeroN sAnd_bit_nonzero rowOf_grow rowOk_grow rowOf_alloc rowOk_alloc

def SolP (s : Fnd) (w : World) (e : Ending) (w' : World) : Prop := ∃ sv, e = .returned (.agg #[sv, .int .i64 (s.nodes : Nat), .bool s.opn]) ∧ SOwn w' w.heap.size sv s.sols ∧ Below w.heap.size w w'
set_option maxRecDepth 100000 in
set_option maxHeartbeats 1000000 in
theorem refSolve_any (p : Prob) (hpo : probOk p = true) (most : Int) (hmo : 0 < most) (bv rv : Value) (w : World) {B : Nat} (hbv : Bnds w B bv p.bounds) (hrv : Rls w B rv p.rules) (hB : B ≤ w.heap.size) :
    Calls Tryd.prog 26 #[.agg #[bv, rv], .int .i64 most] w (SolP (searchR p most) w) := by
  have HBV := Lib.hid hbv; have HRV := Lib.hid hrv; have HPO := Lib.hid hpo
  obtain ⟨ba, bc, rfl⟩ := hbv.slice
  obtain ⟨ra, rc, rfl⟩ := hrv.slice
  clear hbv hrv hpo
  have h2 := heap_new2 w (.cells #[.slice ba p.bounds.length bc, .slice ra p.rules.length rc] 25) (.cells #[.slice none 0 0, .int .i64 0, .bool false] 50)
  have hb2 := Below.new2 w (.cells #[.slice ba p.bounds.length bc, .slice ra p.rules.length rc] 25) (.cells #[.slice none 0 0, .int .i64 0, .bool false] 50)
  have H2 := Lib.hid h2; have HB2 := Lib.hid hb2
  clear h2 hb2
  obtain ⟨s, hs⟩ : ∃ s, s = searchR p most := ⟨_, rfl⟩
  rw [← hs]
  have HS := Lib.hid hs
  clear hs
  go_enter Tryd.func26, Tryd.ntmps26
  go_upto_region 1 with fail
  refine abs_wp (fun Z => Z.heap[w.heap.size]? = some (.cells #[.slice ba p.bounds.length bc, .slice ra p.rules.length rc] 25 (0, 0)) ∧ Z.heap[w.heap.size + 1]? = some (.cells #[.slice none 0 0, .int .i64 0, .bool false] 50 (0, 0)) ∧ Below w.heap.size w Z) ⟨H2.out.1, H2.out.2, HB2.out⟩ ?_
  clear H2 HB2
  rintro W ⟨k0, k1, hb⟩
  have c0 : W.cell? ⟨w.heap.size, 0, none⟩ = some (.slice ba p.bounds.length bc) := by rw [cell_of_row _ _ _ _ _ _ k0]; rfl
  have c1 : W.cell? ⟨w.heap.size, 1, none⟩ = some (.slice ra p.rules.length rc) := by rw [cell_of_row _ _ _ _ _ _ k0]; rfl
  have z0 : w.heap.size < W.heap.size := (Array.getElem?_eq_some_iff.1 k0).1
  have hfit := probOk_fit HPO.out
  have hnode := refNode_any p HPO.out most (.slice ra p.rules.length rc) B W.heap.size (by omega) (openN (padB p.bounds) + 1) p.bounds ⟨[], 0, false⟩ (.slice none 0 0) (.slice ba p.bounds.length bc) W W.heap.size (Nat.lt_succ_self _) rfl hfit.2.2.2.2 (Sub.of_pad (probOk_sub HPO.out)) (Few.start _) rfl hmo (SOwn.nil _ _) ((HBV.out.below hb hB).mono (by omega)) (Nat.le_refl _) (HRV.out.below hb hB) (Nat.le_refl _)
  rw [show (nodeR p most (openN (padB p.bounds) + 1) (padB p.bounds) ⟨[], 0, false⟩).2 = s from HS.out.symm] at hnode
  have HND := Lib.hid hnode; have K1 := Lib.hid k1; have HB := Lib.hid hb
  clear hnode k0 k1 hb hfit
  go_wp2_with fail
  refine HND.out.mono ?_
  rintro e w2 ⟨sv, rfl, hso, hkp⟩
  have hb2 := hkp.toBelow (B := W.heap.size) (Nat.le_refl _) (Nat.le_refl _) (fun _ _ h => h)
  have k2 := heap_later K1.out hb2 (Array.getElem?_eq_some_iff.1 K1.out).1
  have r0 : w2.cell? ⟨w.heap.size + 1, 0, none⟩ = some (.slice none 0 0) := by rw [cell_of_row _ _ _ _ _ _ k2]; rfl
  have r1 : w2.cell? ⟨w.heap.size + 1, 1, none⟩ = some (.int .i64 0) := by rw [cell_of_row _ _ _ _ _ _ k2]; rfl
  have r2 : w2.cell? ⟨w.heap.size + 1, 2, none⟩ = some (.bool false) := by rw [cell_of_row _ _ _ _ _ _ k2]; rfl
  have rf0 : w2.frozen? ⟨w.heap.size + 1, 0, none⟩ = false := by simp [World.frozen?, k2]
  have rf1 : w2.frozen? ⟨w.heap.size + 1, 1, none⟩ = false := by simp [World.frozen?, k2]
  have rf2 : w2.frozen? ⟨w.heap.size + 1, 2, none⟩ = false := by simp [World.frozen?, k2]
  have z1 : w.heap.size + 1 < w2.heap.size := (Array.getElem?_eq_some_iff.1 k2).1
  have j1 := set_row (o := 0) (v := sv) k2
  have j2 := set_row (o := 1) (v := .int .i64 (s.nodes : Nat)) j1
  have j3 := set_row (o := 2) (v := .bool s.opn) j2
  have hi : (Tryd.prog.info? 50).map (·.size) = some [sv, .int .i64 (s.nodes : Nat), .bool s.opn].length := by kernel_rfl
  have hld := run_loadVar_mid _ _ 0 _ [sv, .int .i64 (s.nodes : Nat), .bool s.opn] _ (row_range3 j3) Tryd.underlying50 rfl hi
  have hso3 := ((hso.setCell (x := sv) (o := 0) k2 (by decide) (by decide)).setCell (x := .int .i64 (s.nodes : Nat)) (o := 1) j1 (by decide) (by decide)).setCell (x := .bool s.opn) (o := 2) j2 (by decide) (by decide)
  have hbf := (((HB.out.trans (hb2.mono HB.out.size)).setCell (p := ⟨w.heap.size + 1, 0, none⟩) (by show w.heap.size ≤ w.heap.size + 1; omega) sv).setCell (p := ⟨w.heap.size + 1, 1, none⟩) (by show w.heap.size ≤ w.heap.size + 1; omega) (.int .i64 (s.nodes : Nat))).setCell (p := ⟨w.heap.size + 1, 2, none⟩) (by show w.heap.size ≤ w.heap.size + 1; omega) (.bool s.opn)
  have HFIN := Lib.hid (And.intro hld (And.intro (SOwn.mono hso3 (show w.heap.size ≤ W.heap.size by omega)) hbf))
  obtain ⟨sa, sn, sc, rfl⟩ : ∃ a n c, sv = .slice a n c := by obtain ⟨cs0, hc0, _⟩ := hso; obtain ⟨a, c, h⟩ := own_form hc0; exact ⟨_, _, _, h⟩
  clear hso hkp hb2 k2 j1 j2 j3 hi hld hso3 hbf HND K1 HB c0 c1
  go_wp2
  exact bodyPost_ret (results_cell1 (p := 4) (ty := 50) rfl rfl HFIN.out.1) rfl ⟨_, rfl, HFIN.out.2.1, HFIN.out.2.2⟩
end Go.Proofs.YtilbbnjfaoldoaaDoor
