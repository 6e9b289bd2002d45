/- Package sets: searched, Solve. · Package sets: none. · Package sets: Core. · The examples of the chapter: rule, A, B. · The examples of the chapter: B. · The examples of the chapter: C. -/
import Derived.Test.YtilbbnjfaoldoaaGreatDoorBE
namespace Go.Proofs.YtilbbnjfaoldoaaGreatDoor
open Go Go.RowKit
attribute [local go_sem] cell_grow u64_sAnd u64_sOr u64_sDiff sDiff_all zeqI zneI sAnd_bit_zero sAnd_bit_zeroN sAnd_bit_nonzero rowOf_grow rowOk_grow rowOf_alloc rowOk_alloc

theorem heap_new5 (w : World) (o1 o2 o3 o4 o5 : Obj) : (((((w.alloc o1).alloc o2).alloc o3).alloc o4).alloc o5).heap[w.heap.size]? = some o1 ∧ (((((w.alloc o1).alloc o2).alloc o3).alloc o4).alloc o5).heap[w.heap.size + 1]? = some o2 ∧
    (((((w.alloc o1).alloc o2).alloc o3).alloc o4).alloc o5).heap[w.heap.size + 2]? = some o3 ∧ (((((w.alloc o1).alloc o2).alloc o3).alloc o4).alloc o5).heap[w.heap.size + 3]? = some o4 ∧ (((((w.alloc o1).alloc o2).alloc o3).alloc o4).alloc o5).heap[w.heap.size + 4]? = some o5 :=
  ⟨heap_old (heap_new4 _ _ _ _ _).1, heap_old (heap_new4 _ _ _ _ _).2.1, heap_old (heap_new4 _ _ _ _ _).2.2.1, heap_old (heap_new4 _ _ _ _ _).2.2.2, heap_at (by simp)⟩
theorem Below.new5 (w : World) (o1 o2 o3 o4 o5 : Obj) : Below w.heap.size w (((((w.alloc o1).alloc o2).alloc o3).alloc o4).alloc o5) := (Below.new4 w o1 o2 o3 o4).alloc (by simp; omega) _
theorem SOwn.mono {w : World} {base base' : Nat} {v : Value} {ss : List (List Nat)} (h : SOwn w base v ss) (hb : base' ≤ base) : SOwn w base' v ss := by
  obtain ⟨cs, h1, h2⟩ := h
  exact ⟨cs, own_mono h1 hb, fun i hi => let ⟨yv, e5, e6⟩ := h2 i hi; ⟨yv, e5, own_mono e6 hb⟩⟩
theorem set_row {w : World} {b o : Nat} {c : Array Value} {t : TypeId} {v : Value} (h : w.heap[b]? = some (.cells c t (0, 0))) : (w.setCell ⟨b, o, none⟩ v).heap[b]? = some (.cells (c.setIfInBounds o v) t (0, 0)) := by
  simp only [World.setCell, Array.getElem?_modify, if_true, h, Option.map_some]; rfl
theorem row_range3 {w : World} {b : Nat} {x y z : Value} {t : TypeId} (h : w.heap[b]? = some (.cells #[x, y, z] t (0, 0))) : w.rangeAt b 0 [x, y, z] := fun j v hv => by
  rw [Nat.zero_add, cell_of_row _ _ _ _ _ _ h, List.getElem?_toArray]; exact hv
theorem Few.start (n : Nat) : Few n ⟨[], 0, false⟩ := ⟨Nat.le_refl _, by decide, fun l hl => by cases hl⟩
set_option maxRecDepth 100000 in
set_option maxHeartbeats 1000000 in
theorem searched_any (p : Prob) (hpo : probOk p = true) (most : Int) (bv rv : Value) (w : World) {B : Nat} (hbv : Bnds w B bv p.bounds) (hrv : Rls w B rv p.rules) (hB0 : 0 < B) (hB : B ≤ w.heap.size) (hT : Tab w) :
    Calls Tryz.prog 33 #[.agg #[bv, rv], .int .i64 most] w fun e w' => ∃ sv, e = .returned (.agg #[sv, .int .i64 ((searchR p most).nodes : Nat), .bool (searchR p most).opn]) ∧ SOwn w' w.heap.size sv (searchR p most).sols ∧ Below w.heap.size w w' := by
  have HBV := Lib.hid hbv; have HRV := Lib.hid hrv; have HT := Lib.hid hT; have HPO := Lib.hid hpo
  have HF := Lib.hid (probOk_fit hpo)
  obtain ⟨ba, bc, rfl⟩ := hbv.slice
  obtain ⟨ra, rc, rfl⟩ := hrv.slice
  clear hbv hrv hT hpo
  go_enter Tryz.func33, Tryz.ntmps33
  go_upto_region 4 with fail
  refine abs_wp (fun W => W.heap[w.heap.size]? = some (.cells #[.slice ba p.bounds.length bc, .slice ra p.rules.length rc] 25 (0, 0)) ∧ W.heap[w.heap.size + 1]? = some (.cells #[.int .i64 most] 3 (0, 0)) ∧
    W.heap[w.heap.size + 2]? = some (.cells #[.slice none 0 0, .int .i64 0, .bool false] 70 (0, 0)) ∧ W.heap[w.heap.size + 3]? = some (.cells #[.slice none 0 0, .int .i64 0, .bool false] 70 (0, 0)) ∧
    W.heap[w.heap.size + 4]? = some (.cells #[nodeF (w.heap.size + 3) w.heap.size (w.heap.size + 1) (w.heap.size + 4)] 97 (0, 0)) ∧ Below w.heap.size w W ∧ w.heap.size + 5 = W.heap.size)
    ⟨(heap_new5 _ _ _ _ _ _).1, (heap_new5 _ _ _ _ _ _).2.1, (heap_new5 _ _ _ _ _ _).2.2.1, (heap_new5 _ _ _ _ _ _).2.2.2.1, (heap_new5 _ _ _ _ _ _).2.2.2.2, Below.new5 _ _ _ _ _ _, by simp⟩ ?_
  rintro W ⟨k0, k1, k2, k3, k4, hb, hs⟩
  rw [show w.heap.size + 1 + 1 + 1 + 1 = w.heap.size + 4 from rfl, show w.heap.size + 1 + 1 + 1 = w.heap.size + 3 from rfl, show w.heap.size + 1 + 1 = w.heap.size + 2 from rfl]
  have c4 : W.cell? ⟨w.heap.size + 4, 0, none⟩ = some (.func (.func 57) #[] #[.pointer (some ⟨w.heap.size + 3, 0, none⟩), .pointer (some ⟨w.heap.size, 0, none⟩), .pointer (some ⟨w.heap.size + 1, 0, none⟩), .pointer (some ⟨w.heap.size + 4, 0, none⟩)]) := by rw [cell_of_row _ _ _ _ _ _ k4]; rfl
  have c0 : W.cell? ⟨w.heap.size, 0, none⟩ = some (.slice ba p.bounds.length bc) := by rw [cell_of_row _ _ _ _ _ _ k0]; rfl
  have c1 : W.cell? ⟨w.heap.size, 1, none⟩ = some (.slice ra p.rules.length rc) := by rw [cell_of_row _ _ _ _ _ _ k0]; rfl
  have z0 : w.heap.size < W.heap.size := by omega
  have z4 : w.heap.size + 4 < W.heap.size := by omega
  have H1 : Hid (∀ d os, Gives Tryz.prog 50 #[.agg #[.slice ba p.bounds.length bc, .slice ra p.rules.length rc]] (Go.Sort.grow (redrawn W d) os) (.agg (bCells (padB p.bounds)).toArray)) := Lib.hid fun d os =>
    boundsOf_any p _ _ _ (HBV.out.below (below_grow hb d os) hB) ⟨_, _, _, rfl⟩ (Nat.le_trans hB (below_grow hb d os).size) HF.out.1 HF.out.2.1
  have K0 := Lib.hid k0; have K1 := Lib.hid k1; have K2 := Lib.hid k2; have K3 := Lib.hid k3; have K4 := Lib.hid k4; have HB := Lib.hid hb
  clear k0 k1 k2 k3 k4 hb
  refine wp_region_qbt 3 (by kernel_rfl) (by kernel_rfl) ?_
  simp only [List.take_succ_cons, List.take_zero, List.drop_succ_cons, List.drop_zero]
  repeat go_big_quiet_step ((with_reducible exact Gives.quiet (H1.out _ _)))
  refine wpQuiet_nil ?_
  intro w2 hb2
  have hbw := HB.out.trans (hb2.mono HB.out.size)
  have hnode : NodeAt p most (.slice ba p.bounds.length bc) (.slice ra p.rules.length rc) (w.heap.size + 3) w.heap.size (w.heap.size + 1) (w.heap.size + 4) B (w.heap.size + 5) w2 :=
    ⟨HBV.out.below hbw hB, HRV.out.below hbw hB, HT.out.below hbw (by omega), heap_later K0.out hb2 z0, heap_later K1.out hb2 (by omega), heap_later K4.out hb2 z4, by have := hb2.size; omega⟩
  have hout : OutAt w2 (w.heap.size + 3) (w.heap.size + 5) ⟨[], 0, false⟩ := ⟨_, heap_later K3.out hb2 (by omega), SOwn.nil _ _⟩
  have k2 := heap_later K2.out hb2 (by omega)
  have HN := Lib.hid hnode; have HO := Lib.hid hout; have K22 := Lib.hid k2; have HBW := Lib.hid hbw
  clear hnode hout k2 hbw hb2 c4 c0 c1 H1 K0 K1 K2 K3 K4 HB
  go_wp2_with fail
  refine (node_any p HPO.out most _ _ (w.heap.size + 3) w.heap.size (w.heap.size + 1) (w.heap.size + 4) B (w.heap.size + 5) hB0 (by omega) (by omega) (openN (padB p.bounds) + 1) (padB p.bounds) ⟨[], 0, false⟩ w2 (Nat.lt_succ_self _) HN.out (padB_length HF.out.2.1) (S12.pad HF.out.2.2.2.2) (probOk_sub HPO.out) (Few.start _) HO.out).mono ?_
  rintro e w3 ⟨rfl, ⟨sv, ho3, hso3⟩, hk3⟩
  have k23 := hk3.same _ _ K22.out (by show ¬ w.heap.size + 2 = w.heap.size + 3; omega) (.inl (by omega))
  have hbf : Below w.heap.size w w3 := HBW.out.trans (hk3.toBelow (by omega) (by have := HBW.out.size; omega) (fun q hq h => by unfold One at h; omega))
  have d0 : w3.cell? ⟨w.heap.size + 3, 0, none⟩ = some sv := by rw [cell_of_row _ _ _ _ _ _ ho3]; rfl
  have d1 : w3.cell? ⟨w.heap.size + 3, 1, none⟩ = some (.int .i64 ((searchR p most).nodes : Nat)) := by rw [cell_of_row _ _ _ _ _ _ ho3]; rfl
  have d2 : w3.cell? ⟨w.heap.size + 3, 2, none⟩ = some (.bool (searchR p most).opn) := by rw [cell_of_row _ _ _ _ _ _ ho3]; rfl
  obtain ⟨sa, sn, sc, rfl⟩ : ∃ a n c, sv = .slice a n c := by
    obtain ⟨cs, hc, _⟩ := hso3
    rcases hc.2 with ⟨h, _⟩ | ⟨g, cap, cur, h, _⟩
    · exact ⟨_, _, _, h⟩
    · exact ⟨_, _, _, h⟩
  have hsf : SOwn w3 (w.heap.size + 5) (.slice sa sn sc) (searchR p most).sols := hso3
  have f0 : ∀ i, w3.frozen? ⟨w.heap.size + 2, i, none⟩ = false := fun i => by simp [World.frozen?, k23]
  have ff0 := f0 0; have ff1 := f0 1; have ff2 := f0 2
  have e0 : w3.cell? ⟨w.heap.size + 2, 0, none⟩ = some (.slice none 0 0) := by rw [cell_of_row _ _ _ _ _ _ k23]; rfl
  have e1 : w3.cell? ⟨w.heap.size + 2, 1, none⟩ = some (.int .i64 0) := by rw [cell_of_row _ _ _ _ _ _ k23]; rfl
  have e2 : w3.cell? ⟨w.heap.size + 2, 2, none⟩ = some (.bool false) := by rw [cell_of_row _ _ _ _ _ _ k23]; rfl
  have K23 := Lib.hid k23; have HBF := Lib.hid hbf; have HSF := Lib.hid hsf
  clear k23 hbf hsf hso3 ho3 hk3 f0
  go_wp2_with fail
  have j1 := set_row (o := 0) (v := .slice sa sn sc) K23.out
  have j2 := set_row (o := 1) (v := .int .i64 ((searchR p most).nodes : Nat)) j1
  have j3 := set_row (o := 2) (v := .bool (searchR p most).opn) j2
  have hi : (Tryz.prog.info? 70).map (·.size) = some [Value.slice sa sn sc, .int .i64 ((searchR p most).nodes : Nat), .bool (searchR p most).opn].length := by kernel_rfl
  refine bodyPost_ret (results_cell1 (p := 4) (ty := 70) rfl rfl (run_loadVar_mid _ _ 0 _ [Value.slice sa sn sc, .int .i64 ((searchR p most).nodes : Nat), .bool (searchR p most).opn] _ (row_range3 j3) Tryz.underlying70 rfl hi)) rfl ⟨_, rfl, ?_, ?_⟩
  · exact (((HSF.out.setCell K23.out (by decide) (by decide)).setCell j1 (by decide) (by decide)).setCell j2 (by decide) (by decide)).mono (by omega)
  · exact ((HBF.out.setCell (by show w.heap.size ≤ w.heap.size + 2; omega) _).setCell (by show w.heap.size ≤ w.heap.size + 2; omega) _).setCell (by show w.heap.size ≤ w.heap.size + 2; omega) _
set_option maxRecDepth 100000 in
set_option maxHeartbeats 1000000 in
theorem solve_no (p : Prob) (most : Int) (bv rv : Value) (w : World) {B : Nat} (hbv : Bnds w B bv p.bounds) (hrv : Rls w B rv p.rules) (hB : B ≤ w.heap.size) (hub : U64s p.bounds) (hno : (probOk p && inB most 1 100) = false) :
    Gives Tryz.prog 8 #[.agg #[bv, rv], .int .i64 most] w (.tuple #[.slice none 0 0, .int .i64 0, .int .i64 2]) := by
  unfold Gives
  have HBV := Lib.hid hbv; have HRV := Lib.hid hrv; have HUB := Lib.hid hub
  clear hbv hrv hub
  cases hok : probOk p
  · have HOK := Lib.hid hok
    clear hok hno
    go_enter Tryz.func8, Tryz.ntmps8
    go_wp2_with fail
    refine (check_any p bv rv _ (HBV.out.below (Below.new1 _ _) hB) (HRV.out.below (Below.new1 _ _) hB) (by simp; omega) HUB.out).mono ?_
    rintro e w2 ⟨rfl, hb2⟩
    rw [HOK.out, show errOf false = 2 from rfl]
    have hfin := (Below.new1 w (.cells #[bv, rv] 25)).trans (hb2.mono (by simp))
    clear hb2
    go_wp2
    exact bodyPost_ret (v := .tuple #[.slice none 0 0, .int .i64 0, .int .i64 2]) (by simp [results, Tryz.results8, go_sem]) rfl ⟨rfl, hfin⟩
  · rw [hok, Bool.true_and] at hno
    have HOK := Lib.hid hok; have HNO := Lib.hid hno
    clear hok hno
    go_enter Tryz.func8, Tryz.ntmps8
    go_wp2_with fail
    refine (check_any p bv rv _ (HBV.out.below (Below.new1 _ _) hB) (HRV.out.below (Below.new1 _ _) hB) (by simp; omega) HUB.out).mono ?_
    rintro e w2 ⟨rfl, hb2⟩
    rw [HOK.out, show errOf true = 0 from rfl]
    have hfin := (Below.new1 w (.cells #[bv, rv] 25)).trans (hb2.mono (by simp))
    clear hb2
    go_wp2_with fail
    refine (within_any _ _ _ _).mono ?_
    rintro e w3 ⟨rfl, rfl⟩
    rw [HNO.out]
    go_wp2
    exact bodyPost_ret (v := .tuple #[.slice none 0 0, .int .i64 0, .int .i64 2]) (by simp [results, Tryz.results8, go_sem]) rfl ⟨rfl, hfin⟩
/-- What Solve hands back of a problem as defined. -/
def SolveR (w0 : Nat) (s : Fnd) (e : Ending) (w' : World) : Prop :=
  (s.opn = true ∧ e = .returned (.tuple #[.slice none 0 0, .int .i64 0, .int .i64 8])) ∨ (s.opn = false ∧ ∃ sv, e = .returned (.tuple #[sv, .int .i64 (s.nodes : Nat), .int .i64 0]) ∧ SOwn w' w0 sv s.sols)
set_option maxRecDepth 100000 in
set_option maxHeartbeats 1000000 in
theorem solve_yes (p : Prob) (most : Int) (bv rv : Value) (w : World) {B : Nat} (hbv : Bnds w B bv p.bounds) (hrv : Rls w B rv p.rules) (hB0 : 0 < B) (hB : B ≤ w.heap.size) (hub : U64s p.bounds) (hT : Tab w) (hok : probOk p = true) (hm : inB most 1 100 = true) :
    Calls Tryz.prog 8 #[.agg #[bv, rv], .int .i64 most] w fun e w' => SolveR w.heap.size (searchR p most) e w' ∧ Below w.heap.size w w' := by
  have HBV := Lib.hid hbv; have HRV := Lib.hid hrv; have HUB := Lib.hid hub; have HOK := Lib.hid hok; have HM := Lib.hid hm; have HT := Lib.hid hT
  obtain ⟨ba, bc, rfl⟩ := hbv.slice
  obtain ⟨ra, rc, rfl⟩ := hrv.slice
  clear hbv hrv hub hok hm hT
  go_enter Tryz.func8, Tryz.ntmps8
  go_wp2_with fail
  refine (check_any p _ _ _ (HBV.out.below (Below.new1 _ _) hB) (HRV.out.below (Below.new1 _ _) hB) (by simp; omega) HUB.out).mono ?_
  rintro e w2 ⟨rfl, hb2⟩
  rw [HOK.out, show errOf true = 0 from rfl]
  have k0 := heap_later (heap_new0 w (.cells #[.slice ba p.bounds.length bc, .slice ra p.rules.length rc] 25)) hb2 (by simp)
  have c0 : w2.cell? ⟨w.heap.size, 0, none⟩ = some (.slice ba p.bounds.length bc) := by rw [cell_of_row _ _ _ _ _ _ k0]; rfl
  have c1 : w2.cell? ⟨w.heap.size, 1, none⟩ = some (.slice ra p.rules.length rc) := by rw [cell_of_row _ _ _ _ _ _ k0]; rfl
  have hbw2 := (Below.new1 w (.cells #[.slice ba p.bounds.length bc, .slice ra p.rules.length rc] 25)).trans (hb2.mono (by simp))
  have HB2 := Lib.hid hbw2
  clear k0 hb2 hbw2
  go_wp2_with fail
  refine (within_any _ _ _ _).mono ?_
  rintro e w3 ⟨rfl, rfl⟩
  rw [HM.out]
  go_wp2_with fail
  refine (searched_any p HOK.out most _ _ _ (HBV.out.below HB2.out hB) (HRV.out.below HB2.out hB) hB0 (Nat.le_trans hB HB2.out.size) (HT.out.below HB2.out (by omega))).mono ?_
  rintro e w4 ⟨sv, rfl, hso, hb4⟩
  obtain ⟨sa, sn, sc, rfl⟩ : ∃ a n c, sv = .slice a n c := by
    obtain ⟨cs, hc, _⟩ := hso
    rcases hc.2 with ⟨h, _⟩ | ⟨g, cap, cur, h, _⟩
    · exact ⟨_, _, _, h⟩
    · exact ⟨_, _, _, h⟩
  obtain ⟨s, hs⟩ : ∃ s, s = searchR p most := ⟨_, rfl⟩
  rw [← hs] at hso
  rw [← hs]
  have HSO := Lib.hid (hso.mono HB2.out.size); have HB4 := Lib.hid (HB2.out.trans (hb4.mono HB2.out.size))
  have HS := Lib.hid hs
  clear hso hb4 hs c0 c1
  cases ho : s.opn
  case true =>
    have HO := Lib.hid ho
    clear ho
    go_wp2_with fail
    exact bodyPost_ret (v := .tuple #[.slice none 0 0, .int .i64 0, .int .i64 8]) (by simp [results, Tryz.results8, go_sem]) rfl (by rw [← HS.out]; exact ⟨.inl ⟨HO.out, rfl⟩, HB4.out.trans ((Below.new1 _ _).mono HB4.out.size)⟩)
  case false =>
    have HO := Lib.hid ho
    clear ho
    go_wp2_with fail
    refine abs_wp (fun W => W.heap[w4.heap.size]? = some (.cells #[.slice sa sn sc, .int .i64 (s.nodes : Nat), .bool false] 70 (0, 0)) ∧ Below w4.heap.size w4 W) ⟨heap_new0 _ _, Below.new1 _ _⟩ ?_
    rintro W ⟨k4, hb5⟩
    have d0 : W.cell? ⟨w4.heap.size, 0, none⟩ = some (.slice sa sn sc) := by rw [cell_of_row _ _ _ _ _ _ k4]; rfl
    have d1 : W.cell? ⟨w4.heap.size, 1, none⟩ = some (.int .i64 (s.nodes : Nat)) := by rw [cell_of_row _ _ _ _ _ _ k4]; rfl
    have z4 : w4.heap.size < W.heap.size := (Array.getElem?_eq_some_iff.1 k4).1
    have HB5 := Lib.hid hb5
    clear k4 hb5
    refine wp_region_qb (by kernel_rfl) (by kernel_rfl) ?_
    repeat go_big_quiet_step (fail)
    refine wpQuiet_nil ?_
    intro w6 hb6
    have hb7 := HB5.out.trans (hb6.mono HB5.out.size)
    have HFIN := Lib.hid (And.intro (HSO.out.ck (CK.below hb7)) (HB4.out.trans (hb7.mono HB4.out.size)))
    clear hb6 hb7
    go_wp2
    exact bodyPost_ret (v := .tuple #[.slice sa sn sc, .int .i64 (s.nodes : Nat), .int .i64 0]) (by simp [results, Tryz.results8, go_sem]) rfl (by rw [← HS.out]; exact ⟨.inr ⟨HO.out, _, rfl, HFIN.out.1⟩, HFIN.out.2⟩)
end Go.Proofs.YtilbbnjfaoldoaaGreatDoor

namespace Go.Proofs.YtilbbnjfaoldoaaGreatDoor
open Go Go.RowKit
attribute [local go_sem] cell_grow u64_sAnd u64_sOr u64_sDiff sDiff_all zeqI zneI sAnd_bit_zero sAnd_bit_zeroN sAnd_bit_nonzero rowOf_grow rowOk_grow rowOf_alloc rowOk_alloc

theorem Tryz.info63 : (Tryz.prog.info? 62).map (fun i => (i.zero, i.size, i.bytes)) = some (some (.agg #[.int .i64 0, .slice none 0 0, .int .i64 0, .int .i64 0]), 4, 48) := by kernel_rfl
/-- Rules in a row of the call's own; their variables below B. -/
def ROwn (w : World) (B base : Nat) (v : Value) (rs : List Rl) : Prop := ∃ cs, w.ownsRow base 62 4 v rs.length cs ∧ ∀ i, i < rs.length →
  cs[i * 4]? = some (.int .i64 (rget rs i).kind) ∧ cs[i * 4 + 2]? = some (.int .i64 (rget rs i).low) ∧ cs[i * 4 + 3]? = some (.int .i64 (rget rs i).high) ∧ ∃ yv, cs[i * 4 + 1]? = some yv ∧ Ints w B yv (rget rs i).vars
theorem ROwn.ck {w w' : World} {B base : Nat} {v : Value} {rs : List Rl} (h : ROwn w B base v rs) (hc : CK w w') : ROwn w' B base v rs := by
  obtain ⟨cs, h1, h2⟩ := h
  refine ⟨cs, own_ck h1 hc, fun i hi => ?_⟩
  obtain ⟨e1, e2, e3, yv, e4, e5⟩ := h2 i hi
  exact ⟨e1, e2, e3, yv, e4, e5.ck hc⟩
theorem ROwn.nil (w : World) (B base : Nat) : ROwn w B base (.slice none 0 0) [] := ⟨[], World.ownsRow_nil _ _ _ _, fun _ hi => absurd hi (Nat.not_lt_zero _)⟩
theorem ROwn.rls {w : World} {B base B' : Nat} {v : Value} {rs : List Rl} (h : ROwn w B base v rs) (hB : B ≤ w.heap.size) (hn : rs.length ≤ 140737488355328) (hB' : B' = w.heap.size) : Rls w B' v rs := by
  subst hB'
  obtain ⟨cs, h1, h2⟩ := h
  refine ⟨fun i => cs[i]?.getD undef, ownsRow_row h1 hn (fun i hi => ?_), fun i hi => ?_⟩
  · have : i < cs.length := by rw [h1.1]; exact hi
    rw [List.getElem?_eq_getElem this]; rfl
  · obtain ⟨e1, e2, e3, yv, e4, e5⟩ := h2 i hi
    simp only [e1, e2, e3, e4, Option.getD_some]
    exact ⟨trivial, e5.mono hB, trivial, trivial⟩
theorem rget_snoc (l : List Rl) (f : Rl) (i : Nat) : rget (l ++ [f]) i = if i < l.length then rget l i else if i = l.length then f else default := by
  unfold rget
  by_cases h : i < l.length
  · rw [if_pos h, List.getElem?_append_left h]
  · rw [if_neg h]
    by_cases h2 : i = l.length
    · rw [if_pos h2, h2]; simp
    · rw [if_neg h2, List.getElem?_eq_none (by simp; omega)]; rfl
theorem ROwn.appended {w1 w2 : World} {B base : Nat} {v v' : Value} {rs : List Rl} {f : Rl} {cs : List Value} {yv : Value} (hc : w1.ownsRow base 62 4 v rs.length cs) (hlow : Below B w1 w2)
    (hr : ∀ i, i < rs.length → cs[i * 4]? = some (.int .i64 (rget rs i).kind) ∧ cs[i * 4 + 2]? = some (.int .i64 (rget rs i).low) ∧ cs[i * 4 + 3]? = some (.int .i64 (rget rs i).high) ∧ ∃ yv, cs[i * 4 + 1]? = some yv ∧ Ints w1 B yv (rget rs i).vars)
    (hy : Ints w1 B yv f.vars) (h2 : w2.ownsRow base 62 4 v' (rs.length + 1) (cs ++ [.int .i64 f.kind, yv, .int .i64 f.low, .int .i64 f.high])) : ROwn w2 B base v' (rs ++ [f]) := by
  have hl : cs.length = rs.length * 4 := hc.1
  refine ⟨_, by rw [List.length_append]; exact h2, fun i hi => ?_⟩
  rw [rget_snoc]
  by_cases h : i < rs.length
  · simp only [if_pos h]
    obtain ⟨e1, e2, e3, yv, e4, e5⟩ := hr i h
    rw [List.getElem?_append_left (by omega), List.getElem?_append_left (by omega), List.getElem?_append_left (by omega), List.getElem?_append_left (by omega)]
    exact ⟨e1, e2, e3, yv, e4, e5.below hlow (Nat.le_refl _)⟩
  · have hi2 : i = rs.length := by simp at hi; omega
    subst hi2
    simp only [Nat.lt_irrefl, if_false, if_true]
    rw [List.getElem?_append_right (by omega), List.getElem?_append_right (by omega), List.getElem?_append_right (by omega), List.getElem?_append_right (by omega), hl]
    simp only [Nat.sub_self, Nat.add_sub_cancel_left]
    exact ⟨rfl, rfl, rfl, yv, rfl, hy.below hlow (Nat.le_refl _)⟩
theorem ROwn.setCell {w : World} {B base b : Nat} {v x : Value} {rs : List Rl} {o : Nat} (h : ROwn w B base v rs) (hb : b < base) (hB : B ≤ b) : ROwn (w.setCell ⟨b, o, none⟩ x) B base v rs := by
  obtain ⟨cs, h1, h2⟩ := h
  refine ⟨cs, own_low h1 (fun k c t f hk e => (Below.heap_setCell _ _ _ _ (show k ≠ b by omega)).trans e), fun i hi => ?_⟩
  obtain ⟨e1, e2, e3, yv, e4, e5⟩ := h2 i hi
  exact ⟨e1, e2, e3, yv, e4, e5.below ((Below.refl B w).setCell hB _) (Nat.le_refl _)⟩
theorem abs_anyHS {P : Program} {md : Region.Mode} {ops : Array Oper} {Q : Exit → Act → World → Prop} {S : World → Prop} {n : Nat} {l : Array Bool} {a : Act} {W : World} (R : World → Prop) (hR : R W) (hS : S W) (h : ∀ W', R W' → S W' → wpAnyH P md ops Q S n l a W') : wpAnyH P md ops Q S n l a W := h W hR hS
/-- A problem with some of its rules alone. -/
def pick (p : Prob) (ns : List Nat) : Prob := ⟨p.bounds, ns.map (rget p.rules)⟩
def natI (n : Nat) : Int := n
theorem pick_ok {p : Prob} {ns : List Nat} (hp : probOk p = true) (h12 : ns.length ≤ 12) (hn : ∀ n ∈ ns, n < p.rules.length) : probOk (pick p ns) = true := by
  simp only [probOk, Bool.and_eq_true] at hp ⊢
  refine ⟨⟨⟨hp.1.1.1, by simpa [pick] using h12⟩, hp.1.2⟩, ?_⟩
  rw [List.all_eq_true]
  intro r hr
  obtain ⟨n, hn', rfl⟩ := List.mem_map.1 hr
  have hlt := hn n hn'
  have := List.all_eq_true.1 hp.2 (rget p.rules n) (by unfold rget; rw [List.getElem?_eq_getElem hlt]; exact List.getElem_mem hlt)
  exact this
def noneR (p : Prob) (ns : List Nat) : Fnd := searchR (pick p ns) 1
def noneB (p : Prob) (ns : List Nat) : Bool := if (noneR p ns).opn then false else (noneR p ns).sols.length == 0
def noneE (p : Prob) (ns : List Nat) : Int := if (noneR p ns).opn then 8 else 0
theorem pick_take_succ (p : Prob) (ns : List Nat) (k : Nat) (h : k < ns.length) : (ns.take (k + 1)).map (rget p.rules) = (ns.take k).map (rget p.rules) ++ [rget p.rules ns[k]] := by
  rw [List.take_succ_eq_append_getElem h, List.map_append]; rfl
set_option maxRecDepth 100000 in
set_option maxHeartbeats 1000000 in
theorem none_any (p : Prob) (hpo : probOk p = true) (ns : List Nat) (h12 : ns.length ≤ 12) (hn : ∀ n ∈ ns, n < p.rules.length) (bv rv nv : Value) (w : World) {B : Nat} (hbv : Bnds w B bv p.bounds) (hrv : Rls w B rv p.rules) (hnv : Ints w B nv (ns.map natI)) (hB0 : 0 < B) (hB : B ≤ w.heap.size) (hT : Tab w) :
    Gives Tryz.prog 37 #[.agg #[bv, rv], nv] w (.tuple #[.bool (noneB p ns), .int .i64 (noneE p ns)]) := by
  have HBV := Lib.hid hbv; have HRV := Lib.hid hrv; have HNV := Lib.hid hnv; have HT := Lib.hid hT; have HPO := Lib.hid hpo; have HN := Lib.hid hn
  obtain ⟨ba, bc, rfl⟩ := hbv.slice
  obtain ⟨ra, rc, rfl⟩ := hrv.slice
  obtain ⟨na, nc, rfl⟩ := hnv.slice
  have hml : (ns.map natI).length = ns.length := by simp
  rw [hml] at HNV ⊢
  obtain ⟨_, a', c', hae, hnc', hcm', hrow⟩ := hnv
  cases hae
  have HROW := Lib.hid hrow
  obtain ⟨i0, hin, hz0, hz1, hz2⟩ := info_parts Tryz.info63
  clear hbv hrv hT hpo hn hrow
  unfold Gives
  go_enter Tryz.func37, Tryz.ntmps37
  go_upto_region 2 with fail
  refine abs_wp (fun W => W.heap[w.heap.size]? = some (.cells #[.slice ba p.bounds.length bc, .slice ra p.rules.length rc] 25 (0, 0)) ∧ W.heap[w.heap.size + 1]? = some (.cells #[.slice ba p.bounds.length bc, .slice none 0 0] 25 (0, 0)) ∧ Below w.heap.size w W ∧ w.heap.size + 2 = W.heap.size)
    ⟨(heap_new2 _ _ _).1, (heap_new2 _ _ _).2, Below.new2 _ _ _, by simp⟩ ?_
  rintro W ⟨k0, k1, hb, hs⟩
  have K0 := Lib.hid k0; have K1 := Lib.hid k1; have HB := Lib.hid hb
  clear k0 k1 hb
  go_wp2_with fail
  go_loopw [15] (fun i wr => ∃ k : Nat, ∃ qv, k ≤ ns.length ∧ i = .int .i64 k ∧ wr.heap[w.heap.size]? = some (.cells #[.slice ba p.bounds.length bc, .slice ra p.rules.length rc] 25 (0, 0)) ∧ wr.heap[w.heap.size + 1]? = some (.cells #[.slice ba p.bounds.length bc, qv] 25 (0, 0)) ∧
    ROwn wr B (w.heap.size + 2) qv ((ns.take k).map (rget p.rules)) ∧ Below w.heap.size w wr) (fun i _ => ns.length - (intOf i).toNat)
  case atStart => exact ⟨0, _, Nat.zero_le _, rfl, K0.out, K1.out, ROwn.nil _ _ _, HB.out⟩
  case round =>
    clear K0 K1 HB
    obtain ⟨k, qv, hk, rfl, k0, k1, hro, hb⟩ := hrel
    have z1 : w.heap.size + 1 < wr.heap.size := (Array.getElem?_eq_some_iff.1 k1).1
    have z0 : w.heap.size < wr.heap.size := by omega
    by_cases hlt : k < ns.length
    · obtain ⟨b, off, hna, hbB, hcell⟩ := HROW.out (by omega)
      subst hna
      have e0 : wr.cell? ⟨b, off + k, none⟩ = some (.int .i64 ((ns[k] : Nat) : Int)) := by
        rw [hb.cell (p := ⟨b, off + k, none⟩) (by show b < w.heap.size; omega), hcell k (by simp; exact hlt)]
        simp [iget, hlt, natI]
      have hnk := HN.out ns[k] (List.getElem_mem hlt)
      have hts := pick_take_succ p ns k hlt
      obtain ⟨n, hnn⟩ : ∃ n, n = ns[k] := ⟨_, rfl⟩
      rw [← hnn] at e0 hnk hts
      obtain ⟨rb, ro, vv, hra, hrb, hvv, q0, q1, q2, q3⟩ := (HRV.out.below hb hB).cells hnk
      subst hra
      obtain ⟨va, vc, rfl⟩ := hvv.slice
      have p1 : wr.cell? ⟨w.heap.size, 1, none⟩ = some (.slice (some ⟨rb, ro, none⟩) p.rules.length rc) := by rw [cell_of_row _ _ _ _ _ _ k0]; rfl
      have K0 := Lib.hid k0; have K1 := Lib.hid k1; have HRO := Lib.hid hro; have HB := Lib.hid hb; have HVV := Lib.hid hvv; have HTS := Lib.hid hts
      clear hcell k0 k1 hro hb hvv hts hnn
      go_wp2_with fail
      refine wp_region_held_drew (S := fun V => V.cell? ⟨w.heap.size, 1, none⟩ = some (.slice (some ⟨rb, ro, none⟩) p.rules.length rc) ∧ V.cell? ⟨rb, ro + n * 4, none⟩ = some (.int .i64 (rget p.rules n).kind) ∧ V.cell? ⟨rb, ro + n * 4 + 1, none⟩ = some (.slice va (rget p.rules n).vars.length vc) ∧ V.cell? ⟨rb, ro + n * 4 + 2, none⟩ = some (.int .i64 (rget p.rules n).low) ∧ V.cell? ⟨rb, ro + n * 4 + 3, none⟩ = some (.int .i64 (rget p.rules n).high)) (by kernel_rfl) ⟨p1, q0, q1, q2, q3⟩ (fun hHeld => ?_)
      refine abs_anyHS (fun V => V.heap[w.heap.size]? = some (.cells #[.slice ba p.bounds.length bc, .slice (some ⟨rb, ro, none⟩) p.rules.length rc] 25 (0, 0)) ∧ V.heap[w.heap.size + 1]? = some (.cells #[.slice ba p.bounds.length bc, qv] 25 (0, 0)) ∧ ROwn V B (w.heap.size + 2) qv ((ns.take k).map (rget p.rules)) ∧ Below w.heap.size w V ∧ Ints V B (.slice va (rget p.rules n).vars.length vc) (rget p.rules n).vars)
        ⟨K0.out, K1.out, HRO.out.ck (CK.below (Below.drewn (Below.refl _ _))), Below.drewn HB.out, HVV.out.ck (CK.below (Below.drewn (Below.refl _ _)))⟩ hHeld ?_
      clear hHeld K0 K1 HRO HB p1 q0 q1 q2 q3
      rintro V ⟨kv0, kv1, ⟨cs, hc0, hcr⟩, hbv2, hvw⟩ hHeld
      have zV1 : w.heap.size + 1 < V.heap.size := (Array.getElem?_eq_some_iff.1 kv1).1
      have zV0 : w.heap.size < V.heap.size := by omega
      have x1v : V.cell? ⟨w.heap.size + 1, 1, none⟩ = some qv := by rw [cell_of_row _ _ _ _ _ _ kv1]; rfl
      have hn0 := hHeld
      have SL : Hid (∀ {Z : World}, Below V.heap.size V Z → Z.cell? ⟨w.heap.size, 1, none⟩ = some (.slice (some ⟨rb, ro, none⟩) p.rules.length rc) ∧ Z.cell? ⟨rb, ro + n * 4, none⟩ = some (.int .i64 (rget p.rules n).kind) ∧ Z.cell? ⟨rb, ro + n * 4 + 1, none⟩ = some (.slice va (rget p.rules n).vars.length vc) ∧ Z.cell? ⟨rb, ro + n * 4 + 2, none⟩ = some (.int .i64 (rget p.rules n).low) ∧ Z.cell? ⟨rb, ro + n * 4 + 3, none⟩ = some (.int .i64 (rget p.rules n).high)) := Lib.hid fun hz => ⟨(hz.cell (p := ⟨w.heap.size, 1, none⟩) zV0).trans hn0.1, (hz.cell (p := ⟨rb, _, none⟩) (by show rb < V.heap.size; omega)).trans hn0.2.1, (hz.cell (p := ⟨rb, _, none⟩) (by show rb < V.heap.size; omega)).trans hn0.2.2.1, (hz.cell (p := ⟨rb, _, none⟩) (by show rb < V.heap.size; omega)).trans hn0.2.2.2.1, (hz.cell (p := ⟨rb, _, none⟩) (by show rb < V.heap.size; omega)).trans hn0.2.2.2.2⟩
      have SL2 : Hid (∀ {Z : World}, Below (w.heap.size + 2) V Z → Z.cell? ⟨w.heap.size, 1, none⟩ = some (.slice (some ⟨rb, ro, none⟩) p.rules.length rc) ∧ Z.cell? ⟨rb, ro + n * 4, none⟩ = some (.int .i64 (rget p.rules n).kind) ∧ Z.cell? ⟨rb, ro + n * 4 + 1, none⟩ = some (.slice va (rget p.rules n).vars.length vc) ∧ Z.cell? ⟨rb, ro + n * 4 + 2, none⟩ = some (.int .i64 (rget p.rules n).low) ∧ Z.cell? ⟨rb, ro + n * 4 + 3, none⟩ = some (.int .i64 (rget p.rules n).high)) := Lib.hid fun hz => ⟨(hz.cell (p := ⟨w.heap.size, 1, none⟩) (by show w.heap.size < w.heap.size + 2; omega)).trans hn0.1, (hz.cell (p := ⟨rb, _, none⟩) (by show rb < w.heap.size + 2; omega)).trans hn0.2.1, (hz.cell (p := ⟨rb, _, none⟩) (by show rb < w.heap.size + 2; omega)).trans hn0.2.2.1, (hz.cell (p := ⟨rb, _, none⟩) (by show rb < w.heap.size + 2; omega)).trans hn0.2.2.2.1, (hz.cell (p := ⟨rb, _, none⟩) (by show rb < w.heap.size + 2; omega)).trans hn0.2.2.2.2⟩
      have SL3 : Hid (∀ (Z : World), Below (w.heap.size + 2) V Z → ∀ x, (Z.setCell ⟨w.heap.size + 1, 1, none⟩ x).cell? ⟨w.heap.size, 1, none⟩ = some (.slice (some ⟨rb, ro, none⟩) p.rules.length rc) ∧ (Z.setCell ⟨w.heap.size + 1, 1, none⟩ x).cell? ⟨rb, ro + n * 4, none⟩ = some (.int .i64 (rget p.rules n).kind) ∧ (Z.setCell ⟨w.heap.size + 1, 1, none⟩ x).cell? ⟨rb, ro + n * 4 + 1, none⟩ = some (.slice va (rget p.rules n).vars.length vc) ∧ (Z.setCell ⟨w.heap.size + 1, 1, none⟩ x).cell? ⟨rb, ro + n * 4 + 2, none⟩ = some (.int .i64 (rget p.rules n).low) ∧ (Z.setCell ⟨w.heap.size + 1, 1, none⟩ x).cell? ⟨rb, ro + n * 4 + 3, none⟩ = some (.int .i64 (rget p.rules n).high)) := Lib.hid fun Z hz x => by
        have h1 : ∀ b o, b ≠ w.heap.size + 1 → (Z.setCell ⟨w.heap.size + 1, 1, none⟩ x).cell? ⟨b, o, none⟩ = Z.cell? ⟨b, o, none⟩ := fun b o hb => World.cell?_of_block (Below.heap_setCell _ _ _ _ (by exact hb))
        rw [h1 _ _ (by omega), h1 _ _ (by omega), h1 _ _ (by omega), h1 _ _ (by omega), h1 _ _ (by omega)]
        exact SL2.out hz
      have KV0 := Lib.hid kv0; have KV1 := Lib.hid kv1; have HBV2 := Lib.hid hbv2; have HVW := Lib.hid hvw
      clear kv0 kv1 hbv2 hn0 hvw
      refine wpAnyH_take (i := 0) (oi := { dst := some 19, op := Op.fieldAddr 25 (Operand.tmp 6) 1, type := 0, pos := "search.go:65", after := #[], guard := none }) (v := ?_) rfl (by kernel_rfl) (by kernel_rfl) (by kernel_rfl) (fun _ _ _ h => h) (Or.inl ⟨by rfl, ?_⟩) (by assumption) ?_
      rotate_left
      · intro w hSw
        try dsimp only at hSw
        obtain ⟨hs0, hs1, hs2, hs3, hs4⟩ := hSw
        go_simp
        try with_reducible rfl
      try simp only [Act.put, List.setIfInBounds_toArray, List.set_cons_zero, List.set_cons_succ]
      refine wpAnyH_take (i := 2) (oi := { dst := some 21, op := Op.fieldAddr 25 (Operand.tmp 2) 1, type := 0, pos := "search.go:65", after := #[], guard := none }) (v := ?_) rfl (by kernel_rfl) (by kernel_rfl) (by kernel_rfl) (fun _ _ _ h => h) (Or.inl ⟨by rfl, ?_⟩) (by assumption) ?_
      rotate_left
      · intro w hSw
        try dsimp only at hSw
        obtain ⟨hs0, hs1, hs2, hs3, hs4⟩ := hSw
        go_simp
        try with_reducible rfl
      try simp only [Act.put, List.setIfInBounds_toArray, List.set_cons_zero, List.set_cons_succ]
      refine wpAnyH_take (i := 3) (oi := { dst := some 22, op := Op.load 23 (Operand.tmp 21), type := 23, pos := "search.go:65", after := #[{ on := 2, ground := Ground.data }], guard := none }) (v := ?_) rfl (by kernel_rfl) (by kernel_rfl) (by kernel_rfl) (fun _ _ _ h => h) (Or.inl ⟨by rfl, ?_⟩) (by assumption) ?_
      rotate_left
      · intro w hSw
        try dsimp only at hSw
        obtain ⟨hs0, hs1, hs2, hs3, hs4⟩ := hSw
        go_simp
        try with_reducible rfl
      try simp only [Act.put, List.setIfInBounds_toArray, List.set_cons_zero, List.set_cons_succ]
      refine wpAnyH_take (i := 4) (oi := { dst := some 23, op := Op.move (Operand.tmp 8), type := 3, pos := "search.go:65", after := #[], guard := none }) (v := ?_) rfl (by kernel_rfl) (by kernel_rfl) (by kernel_rfl) (fun _ _ _ h => h) (Or.inl ⟨by rfl, ?_⟩) (by assumption) ?_
      rotate_left
      · intro w hSw
        try dsimp only at hSw
        obtain ⟨hs0, hs1, hs2, hs3, hs4⟩ := hSw
        go_simp
        try with_reducible rfl
      try simp only [Act.put, List.setIfInBounds_toArray, List.set_cons_zero, List.set_cons_succ]
      refine wpAnyH_take (i := 5) (oi := { dst := some 24, op := Op.indexAddr 23 (Operand.tmp 22) (Operand.tmp 23), type := 0, pos := "search.go:65", after := #[{ on := 3, ground := Ground.data }, { on := 4, ground := Ground.data }], guard := none }) (v := ?_) rfl (by kernel_rfl) (by kernel_rfl) (by kernel_rfl) (fun _ _ _ h => h) (Or.inl ⟨by rfl, ?_⟩) (by assumption) ?_
      rotate_left
      · intro w hSw
        try dsimp only at hSw
        obtain ⟨hs0, hs1, hs2, hs3, hs4⟩ := hSw
        go_simp
        try with_reducible rfl
      try simp only [Act.put, List.setIfInBounds_toArray, List.set_cons_zero, List.set_cons_succ]
      refine wpAnyH_take (i := 6) (oi := { dst := some 25, op := Op.load 62 (Operand.tmp 24), type := 62, pos := "search.go:65", after := #[{ on := 5, ground := Ground.data }], guard := none }) (v := ?_) rfl (by kernel_rfl) (by kernel_rfl) (by kernel_rfl) (fun _ _ _ h => h) (Or.inl ⟨by rfl, ?_⟩) (by assumption) ?_
      rotate_left
      · intro w hSw
        try dsimp only at hSw
        obtain ⟨hs0, hs1, hs2, hs3, hs4⟩ := hSw
        go_simp
        try with_reducible rfl
      try simp only [Act.put, List.setIfInBounds_toArray, List.set_cons_zero, List.set_cons_succ]
      refine wpAnyH_ready (rs := [1, 7]) (by kernel_rfl) (by simp) ?_
      refine AllReadyH.cons (o := { dst := some 20, op := Op.load 23 (Operand.tmp 19), type := 23, pos := "search.go:65", after := #[{ on := 0, ground := Ground.data }], guard := none }) rfl (fun K hK => ?_) (AllReadyH.cons (o := { dst := some 26, op := Op.buildSlice 23 1 #[(0, Operand.tmp 25)], type := 23, pos := "search.go:65", after := #[{ on := 6, ground := Ground.data }], guard := none }) rfl (fun K hK => ?_) AllReadyH.nil)
      · go_simp
        refine hK.out _ _ hHeld (fun _ => ?_)
        clear hK K x1v
        try simp only [Act.put, List.setIfInBounds_toArray, List.set_cons_zero, List.set_cons_succ]
        refine wpAnyH_ready (rs := [7]) (by kernel_rfl) (by simp) ?_
        refine AllReadyH.cons (o := { dst := some 26, op := Op.buildSlice 23 1 #[(0, Operand.tmp 25)], type := 23, pos := "search.go:65", after := #[{ on := 6, ground := Ground.data }], guard := none }) rfl (fun K hK => ?_) AllReadyH.nil
        go_simp
        refine hK.out _ _ (SL.out (Below.new1 _ _)) (fun hHeld => ?_)
        clear hK K
        try simp only [Act.put, List.setIfInBounds_toArray, List.set_cons_zero, List.set_cons_succ]
        refine abs_anyH (fun Z => Below V.heap.size V Z ∧ Z.heap[V.heap.size]? = some (.cells #[.int .i64 (rget p.rules n).kind, .slice va (rget p.rules n).vars.length vc, .int .i64 (rget p.rules n).low, .int .i64 (rget p.rules n).high] 62 (0, 0))) ⟨Below.new1 _ _, heap_new0 _ _⟩ ?_
        rintro X1 ⟨hbx, kx⟩
        have KX := Lib.hid kx; have HBX := Lib.hid hbx
        clear hbx kx
        refine wpAnyH_ready (rs := [8]) (by kernel_rfl) (by simp) ?_
        refine AllReadyH.cons (o := { dst := some 27, op := Op.call { callee := Callee.builtin Builtin.append, args := #[Operand.tmp 20, Operand.tmp 26], argTypes := #[23, 23] }, type := 23, pos := "search.go:65", after := #[{ on := 1, ground := Ground.data }, { on := 7, ground := Ground.data }], guard := none }) rfl (fun K hK => ?_) AllReadyH.nil
        rw [if_pos (by rfl)]
        have hcs1 := own_ck hc0 (CK.below HBX.out)
        have hlen : ((ns.take k).map (rget p.rules)).length ≤ 12 := by simp; omega
        refine wp_append_own X1 _ _ 23 rfl (w.heap.size + 2) 62 i0 _ 4 48 Tryz.underlying23 hin hz0 hz1 hz2 rfl (by decide) qv ((ns.take k).map (rget p.rules)).length cs rfl hcs1 ⟨V.heap.size, 0, none⟩ 1 1 [.int .i64 (rget p.rules n).kind, .slice va (rget p.rules n).vars.length vc, .int .i64 (rget p.rules n).low, .int .i64 (rget p.rules n).high] rfl rfl ?_ ?_ (by unfold maxLen; omega) (by omega) (by have := HBX.out.size; omega) ?_
        · intro q u hq
          rw [Addr.add_lit, Nat.zero_add, cell_of_row _ _ _ _ _ _ KX.out, List.getElem?_toArray]; exact hq
        · intro u hu
          simp only [List.mem_cons, List.not_mem_nil, or_false] at hu
          rcases hu with rfl | rfl | rfl | rfl <;> rfl
        intro v' X2 hown2 hgrow2 _
        have hlowX : Below (w.heap.size + 2) V X2 := (HBX.out.mono (by omega)).trans ((Below.refl (w.heap.size + 2) X1).grown hgrow2 (by have := HBX.out.size; omega) (fun q hq => (hcs1.lt q hq).1))
        have hro2 : ROwn X2 B (w.heap.size + 2) v' ((ns.take (k + 1)).map (rget p.rules)) := by
          rw [HTS.out]
          refine ROwn.appended hcs1 ((Below.refl (w.heap.size + 2) X1).grown hgrow2 (by have := HBX.out.size; omega) (fun q hq => (hcs1.lt q hq).1) |>.mono (by omega)) (fun i hi => ?_) (HVW.out.ck (CK.below HBX.out)) hown2
          obtain ⟨e1, e2, e3, yv, e4, e5⟩ := hcr i hi
          exact ⟨e1, e2, e3, yv, e4, e5.ck (CK.below HBX.out)⟩
        refine hK.out _ _ (SL2.out hlowX) (fun hHeld => ?_)
        clear hK K
        try simp only [Act.put, List.setIfInBounds_toArray, List.set_cons_zero, List.set_cons_succ]
        have k12 := heap_later KV1.out hlowX (by omega)
        have k02 := heap_later KV0.out hlowX (by omega)
        have hb2 := HBV2.out.trans (hlowX.mono (by omega))
        have hlen2 : ((ns.take k).map (rget p.rules)).length = k := by simp; omega
        rw [hlen2] at hown2
        obtain ⟨g5, cp, rfl⟩ := Slice.own_succ hown2
        have x1 : X2.cell? ⟨w.heap.size + 1, 1, none⟩ = some qv := by rw [cell_of_row _ _ _ _ _ _ k12]; rfl
        have x1f : X2.frozen? ⟨w.heap.size + 1, 1, none⟩ = false := by simp [World.frozen?, k12]
        have K12 := Lib.hid k12; have K02 := Lib.hid k02; have HB2 := Lib.hid hb2; have HRO2 := Lib.hid hro2; have HLX := Lib.hid hlowX
        clear hown2 hgrow2 hcs1 hro2 k12 k02 hb2 hlowX
        refine wpAnyH_ready (rs := [9]) (by kernel_rfl) (by simp) ?_
        refine AllReadyH.cons (o := { dst := some 28, op := Op.fieldAddr 25 (Operand.tmp 6) 1, type := 0, pos := "search.go:65", after := #[{ on := 0, ground := Ground.phase }, { on := 1, ground := Ground.phase }, { on := 2, ground := Ground.phase }, { on := 3, ground := Ground.phase }, { on := 4, ground := Ground.phase }, { on := 5, ground := Ground.phase }, { on := 6, ground := Ground.phase }, { on := 7, ground := Ground.phase }, { on := 8, ground := Ground.phase }], guard := none }) rfl (fun K hK => ?_) AllReadyH.nil
        go_simp
        refine hK.out _ _ (SL2.out HLX.out) (fun hHeld => ?_)
        clear hK K
        try simp only [Act.put, List.setIfInBounds_toArray, List.set_cons_zero, List.set_cons_succ]
        refine wpAnyH_ready (rs := [10]) (by kernel_rfl) (by simp) ?_
        refine AllReadyH.cons (o := { dst := none, op := Op.store 23 (Operand.tmp 28) (Operand.tmp 27), type := 0, pos := "search.go:65", after := #[{ on := 9, ground := Ground.data }, { on := 8, ground := Ground.data }, { on := 8, ground := Ground.chain }, { on := 0, ground := Ground.phase }, { on := 1, ground := Ground.phase }, { on := 2, ground := Ground.phase }, { on := 3, ground := Ground.phase }, { on := 4, ground := Ground.phase }, { on := 5, ground := Ground.phase }, { on := 6, ground := Ground.phase }, { on := 7, ground := Ground.phase }, { on := 8, ground := Ground.phase }], guard := none }) rfl (fun K hK => ?_) AllReadyH.nil
        go_simp
        refine hK.out _ _ (SL3.out _ HLX.out _) (fun hHeld => ?_)
        clear hK K hHeld x1 x1f
        refine wpAnyH_done (by kernel_rfl) ?_ _
        have n0 : w.heap.size ≠ w.heap.size + 1 := by omega
        have hfin : ∃ qv, (X2.setCell ⟨w.heap.size + 1, 1, none⟩ (.slice (some ⟨g5, 0, none⟩) (k + 1) cp)).heap[w.heap.size]? = some (.cells #[.slice ba p.bounds.length bc, .slice (some ⟨rb, ro, none⟩) p.rules.length rc] 25 (0, 0)) ∧
            (X2.setCell ⟨w.heap.size + 1, 1, none⟩ (.slice (some ⟨g5, 0, none⟩) (k + 1) cp)).heap[w.heap.size + 1]? = some (.cells #[.slice ba p.bounds.length bc, qv] 25 (0, 0)) ∧
            ROwn (X2.setCell ⟨w.heap.size + 1, 1, none⟩ (.slice (some ⟨g5, 0, none⟩) (k + 1) cp)) B (w.heap.size + 2) qv ((ns.take (k + 1)).map (rget p.rules)) ∧ Below w.heap.size w (X2.setCell ⟨w.heap.size + 1, 1, none⟩ (.slice (some ⟨g5, 0, none⟩) (k + 1) cp)) :=
          ⟨_, (Below.heap_setCell _ _ _ _ n0).trans K02.out, set_row K12.out, HRO2.out.setCell (by omega) (by omega), HB2.out.setCell (by show w.heap.size ≤ w.heap.size + 1; omega) _⟩
        refine abs_post (fun Z => ∃ qv, Z.heap[w.heap.size]? = some (.cells #[.slice ba p.bounds.length bc, .slice (some ⟨rb, ro, none⟩) p.rules.length rc] 25 (0, 0)) ∧ Z.heap[w.heap.size + 1]? = some (.cells #[.slice ba p.bounds.length bc, qv] 25 (0, 0)) ∧ ROwn Z B (w.heap.size + 2) qv ((ns.take (k + 1)).map (rget p.rules)) ∧ Below w.heap.size w Z) hfin ?_
        clear hfin K12 K02 HB2 HRO2 HLX
        rintro Z ⟨qv2, k0, k1, hro, hb⟩
        have K0 := Lib.hid k0; have K1 := Lib.hid k1; have HRO := Lib.hid hro; have HB := Lib.hid hb
        clear k0 k1 hro hb
        go_wp2
        go_roundw
        case rel => exact ⟨k + 1, qv2, by omega, by go_num, K0.out, K1.out, HRO.out, HB.out⟩
        case measure => simp [intOf]; omega
      · go_simp
        refine hK.out _ _ (SL.out (Below.new1 _ _)) (fun hHeld => ?_)
        clear hK K
        try simp only [Act.put, List.setIfInBounds_toArray, List.set_cons_zero, List.set_cons_succ]
        refine abs_anyH (fun Z => Below V.heap.size V Z ∧ Z.heap[V.heap.size]? = some (.cells #[.int .i64 (rget p.rules n).kind, .slice va (rget p.rules n).vars.length vc, .int .i64 (rget p.rules n).low, .int .i64 (rget p.rules n).high] 62 (0, 0))) ⟨Below.new1 _ _, heap_new0 _ _⟩ ?_
        rintro X1 ⟨hbx, kx⟩
        have KX := Lib.hid kx; have HBX := Lib.hid hbx
        clear hbx kx
        have x1b := (HBX.out.cell (p := ⟨w.heap.size + 1, 1, none⟩) zV1).trans x1v
        refine wpAnyH_ready (rs := [1]) (by kernel_rfl) (by simp) ?_
        refine AllReadyH.cons (o := { dst := some 20, op := Op.load 23 (Operand.tmp 19), type := 23, pos := "search.go:65", after := #[{ on := 0, ground := Ground.data }], guard := none }) rfl (fun K hK => ?_) AllReadyH.nil
        go_simp
        refine hK.out _ _ (SL.out HBX.out) (fun _ => ?_)
        clear hK K x1v x1b
        try simp only [Act.put, List.setIfInBounds_toArray, List.set_cons_zero, List.set_cons_succ]
        refine wpAnyH_ready (rs := [8]) (by kernel_rfl) (by simp) ?_
        refine AllReadyH.cons (o := { dst := some 27, op := Op.call { callee := Callee.builtin Builtin.append, args := #[Operand.tmp 20, Operand.tmp 26], argTypes := #[23, 23] }, type := 23, pos := "search.go:65", after := #[{ on := 1, ground := Ground.data }, { on := 7, ground := Ground.data }], guard := none }) rfl (fun K hK => ?_) AllReadyH.nil
        rw [if_pos (by rfl)]
        have hcs1 := own_ck hc0 (CK.below HBX.out)
        have hlen : ((ns.take k).map (rget p.rules)).length ≤ 12 := by simp; omega
        refine wp_append_own X1 _ _ 23 rfl (w.heap.size + 2) 62 i0 _ 4 48 Tryz.underlying23 hin hz0 hz1 hz2 rfl (by decide) qv ((ns.take k).map (rget p.rules)).length cs rfl hcs1 ⟨V.heap.size, 0, none⟩ 1 1 [.int .i64 (rget p.rules n).kind, .slice va (rget p.rules n).vars.length vc, .int .i64 (rget p.rules n).low, .int .i64 (rget p.rules n).high] rfl rfl ?_ ?_ (by unfold maxLen; omega) (by omega) (by have := HBX.out.size; omega) ?_
        · intro q u hq
          rw [Addr.add_lit, Nat.zero_add, cell_of_row _ _ _ _ _ _ KX.out, List.getElem?_toArray]; exact hq
        · intro u hu
          simp only [List.mem_cons, List.not_mem_nil, or_false] at hu
          rcases hu with rfl | rfl | rfl | rfl <;> rfl
        intro v' X2 hown2 hgrow2 _
        have hlowX : Below (w.heap.size + 2) V X2 := (HBX.out.mono (by omega)).trans ((Below.refl (w.heap.size + 2) X1).grown hgrow2 (by have := HBX.out.size; omega) (fun q hq => (hcs1.lt q hq).1))
        have hro2 : ROwn X2 B (w.heap.size + 2) v' ((ns.take (k + 1)).map (rget p.rules)) := by
          rw [HTS.out]
          refine ROwn.appended hcs1 ((Below.refl (w.heap.size + 2) X1).grown hgrow2 (by have := HBX.out.size; omega) (fun q hq => (hcs1.lt q hq).1) |>.mono (by omega)) (fun i hi => ?_) (HVW.out.ck (CK.below HBX.out)) hown2
          obtain ⟨e1, e2, e3, yv, e4, e5⟩ := hcr i hi
          exact ⟨e1, e2, e3, yv, e4, e5.ck (CK.below HBX.out)⟩
        refine hK.out _ _ (SL2.out hlowX) (fun hHeld => ?_)
        clear hK K
        try simp only [Act.put, List.setIfInBounds_toArray, List.set_cons_zero, List.set_cons_succ]
        have k12 := heap_later KV1.out hlowX (by omega)
        have k02 := heap_later KV0.out hlowX (by omega)
        have hb2 := HBV2.out.trans (hlowX.mono (by omega))
        have hlen2 : ((ns.take k).map (rget p.rules)).length = k := by simp; omega
        rw [hlen2] at hown2
        obtain ⟨g5, cp, rfl⟩ := Slice.own_succ hown2
        have x1 : X2.cell? ⟨w.heap.size + 1, 1, none⟩ = some qv := by rw [cell_of_row _ _ _ _ _ _ k12]; rfl
        have x1f : X2.frozen? ⟨w.heap.size + 1, 1, none⟩ = false := by simp [World.frozen?, k12]
        have K12 := Lib.hid k12; have K02 := Lib.hid k02; have HB2 := Lib.hid hb2; have HRO2 := Lib.hid hro2; have HLX := Lib.hid hlowX
        clear hown2 hgrow2 hcs1 hro2 k12 k02 hb2 hlowX
        refine wpAnyH_ready (rs := [9]) (by kernel_rfl) (by simp) ?_
        refine AllReadyH.cons (o := { dst := some 28, op := Op.fieldAddr 25 (Operand.tmp 6) 1, type := 0, pos := "search.go:65", after := #[{ on := 0, ground := Ground.phase }, { on := 1, ground := Ground.phase }, { on := 2, ground := Ground.phase }, { on := 3, ground := Ground.phase }, { on := 4, ground := Ground.phase }, { on := 5, ground := Ground.phase }, { on := 6, ground := Ground.phase }, { on := 7, ground := Ground.phase }, { on := 8, ground := Ground.phase }], guard := none }) rfl (fun K hK => ?_) AllReadyH.nil
        go_simp
        refine hK.out _ _ (SL2.out HLX.out) (fun hHeld => ?_)
        clear hK K
        try simp only [Act.put, List.setIfInBounds_toArray, List.set_cons_zero, List.set_cons_succ]
        refine wpAnyH_ready (rs := [10]) (by kernel_rfl) (by simp) ?_
        refine AllReadyH.cons (o := { dst := none, op := Op.store 23 (Operand.tmp 28) (Operand.tmp 27), type := 0, pos := "search.go:65", after := #[{ on := 9, ground := Ground.data }, { on := 8, ground := Ground.data }, { on := 8, ground := Ground.chain }, { on := 0, ground := Ground.phase }, { on := 1, ground := Ground.phase }, { on := 2, ground := Ground.phase }, { on := 3, ground := Ground.phase }, { on := 4, ground := Ground.phase }, { on := 5, ground := Ground.phase }, { on := 6, ground := Ground.phase }, { on := 7, ground := Ground.phase }, { on := 8, ground := Ground.phase }], guard := none }) rfl (fun K hK => ?_) AllReadyH.nil
        go_simp
        refine hK.out _ _ (SL3.out _ HLX.out _) (fun hHeld => ?_)
        clear hK K hHeld x1 x1f
        refine wpAnyH_done (by kernel_rfl) ?_ _
        have n0 : w.heap.size ≠ w.heap.size + 1 := by omega
        have hfin : ∃ qv, (X2.setCell ⟨w.heap.size + 1, 1, none⟩ (.slice (some ⟨g5, 0, none⟩) (k + 1) cp)).heap[w.heap.size]? = some (.cells #[.slice ba p.bounds.length bc, .slice (some ⟨rb, ro, none⟩) p.rules.length rc] 25 (0, 0)) ∧
            (X2.setCell ⟨w.heap.size + 1, 1, none⟩ (.slice (some ⟨g5, 0, none⟩) (k + 1) cp)).heap[w.heap.size + 1]? = some (.cells #[.slice ba p.bounds.length bc, qv] 25 (0, 0)) ∧
            ROwn (X2.setCell ⟨w.heap.size + 1, 1, none⟩ (.slice (some ⟨g5, 0, none⟩) (k + 1) cp)) B (w.heap.size + 2) qv ((ns.take (k + 1)).map (rget p.rules)) ∧ Below w.heap.size w (X2.setCell ⟨w.heap.size + 1, 1, none⟩ (.slice (some ⟨g5, 0, none⟩) (k + 1) cp)) :=
          ⟨_, (Below.heap_setCell _ _ _ _ n0).trans K02.out, set_row K12.out, HRO2.out.setCell (by omega) (by omega), HB2.out.setCell (by show w.heap.size ≤ w.heap.size + 1; omega) _⟩
        refine abs_post (fun Z => ∃ qv, Z.heap[w.heap.size]? = some (.cells #[.slice ba p.bounds.length bc, .slice (some ⟨rb, ro, none⟩) p.rules.length rc] 25 (0, 0)) ∧ Z.heap[w.heap.size + 1]? = some (.cells #[.slice ba p.bounds.length bc, qv] 25 (0, 0)) ∧ ROwn Z B (w.heap.size + 2) qv ((ns.take (k + 1)).map (rget p.rules)) ∧ Below w.heap.size w Z) hfin ?_
        clear hfin K12 K02 HB2 HRO2 HLX
        rintro Z ⟨qv2, k0, k1, hro, hb⟩
        have K0 := Lib.hid k0; have K1 := Lib.hid k1; have HRO := Lib.hid hro; have HB := Lib.hid hb
        clear k0 k1 hro hb
        go_wp2
        go_roundw
        case rel => exact ⟨k + 1, qv2, by omega, by go_num, K0.out, K1.out, HRO.out, HB.out⟩
        case measure => simp [intOf]; omega
    · have hk2 : k = ns.length := by omega
      subst hk2
      rw [List.take_length] at hro
      have hpk := pick_ok HPO.out h12 HN.out
      obtain ⟨qa, qn, qc, rfl⟩ : ∃ a n c, qv = .slice a n c := by
        obtain ⟨cs, hc, _⟩ := hro
        rcases hc.2 with ⟨h, _⟩ | ⟨g, cap, cur, h, _⟩
        · exact ⟨_, _, _, h⟩
        · exact ⟨_, _, _, h⟩
      have hbz := hb.size
      have hq : Rls wr wr.heap.size (.slice qa qn qc) (pick p ns).rules := hro.rls (by omega) (by simp; omega) rfl
      have hbq : Bnds wr wr.heap.size (.slice ba p.bounds.length bc) (pick p ns).bounds := (HBV.out.below hb hB).mono (by omega)
      have c0 : wr.cell? ⟨w.heap.size + 1, 0, none⟩ = some (.slice ba p.bounds.length bc) := by rw [cell_of_row _ _ _ _ _ _ k1]; rfl
      have c1 : wr.cell? ⟨w.heap.size + 1, 1, none⟩ = some (.slice qa qn qc) := by rw [cell_of_row _ _ _ _ _ _ k1]; rfl
      have HQ := Lib.hid hq; have HBQ := Lib.hid hbq; have HB := Lib.hid hb; have HPK := Lib.hid hpk
      clear k0 k1 hro hb hq hbq hpk
      go_wp2_with fail
      refine (searched_any (pick p ns) HPK.out 1 _ _ wr HBQ.out HQ.out (by omega) (Nat.le_refl _) (HT.out.below HB.out (by omega))).mono ?_
      rintro e w4 ⟨sv, rfl, hso, hb4⟩
      obtain ⟨s, hs⟩ : ∃ s, s = noneR p ns := ⟨_, rfl⟩
      rw [show searchR (pick p ns) 1 = s from hs.symm] at hso ⊢
      obtain ⟨sa, sc, rfl⟩ : ∃ a c, sv = .slice a s.sols.length c := by
        obtain ⟨cs, hc, _⟩ := hso
        rcases hc.2 with ⟨h, h0⟩ | ⟨g, cap, cur, h, _⟩
        · exact ⟨_, _, h0 ▸ h⟩
        · exact ⟨_, _, h⟩
      have HS := Lib.hid hs; have HB4 := Lib.hid (HB.out.trans (hb4.mono (by omega)))
      clear hso hb4 hs c0 c1
      cases ho : s.opn
      case true =>
        have HO := Lib.hid ho
        clear ho
        go_wp2_with fail
        exact bodyPost_ret (v := .tuple #[.bool false, .int .i64 8]) (by simp [results, Tryz.results37, go_sem]) rfl (by unfold noneB noneE; rw [← HS.out, HO.out]; exact ⟨rfl, HB4.out.trans ((Below.new1 _ _).mono HB4.out.size)⟩)
      case false =>
        have HO := Lib.hid ho
        clear ho
        go_wp2_with fail
        exact bodyPost_ret (v := .tuple #[.bool (s.sols.length == 0), .int .i64 0]) (by simp [results, Tryz.results37, go_sem]) rfl (by unfold noneB noneE; rw [← HS.out, HO.out]; exact ⟨rfl, HB4.out.trans ((Below.new1 _ _).mono HB4.out.size)⟩)
end Go.Proofs.YtilbbnjfaoldoaaGreatDoor

namespace Go.Proofs.YtilbbnjfaoldoaaGreatDoor
open Go Go.RowKit
attribute [local go_sem] cell_grow u64_sAnd u64_sOr u64_sDiff sDiff_all zeqI zneI sAnd_bit_zero sAnd_bit_zeroN sAnd_bit_nonzero rowOf_grow rowOk_grow rowOf_alloc rowOk_alloc

/-- Rule after rule, from the last to the first: is it needed? None: too many nodes. -/
def coreRed (p : Prob) : Nat → List Nat → Option (List Nat)
  | 0, ns => some ns
  | i + 1, ns => if (noneR p (ns.eraseIdx i)).opn then none else coreRed p i (if noneB p (ns.eraseIdx i) then ns.eraseIdx i else ns)
theorem coreRed_succ (p : Prob) (i : Nat) (ns : List Nat) : coreRed p (i + 1) ns = if (noneR p (ns.eraseIdx i)).opn then none else coreRed p i (if noneB p (ns.eraseIdx i) then ns.eraseIdx i else ns) := rfl
def allN (p : Prob) : List Nat := List.range p.rules.length
/-- The core, and the error. -/
def coreR (p : Prob) : List Nat × Int :=
  if probOk p then
    if (noneR p (allN p)).opn then ([], 8) else if noneB p (allN p) then (match coreRed p p.rules.length (allN p) with | some c => (c, 0) | none => ([], 8)) else ([], 5)
  else ([], 2)
theorem noneE_of {p : Prob} {ns : List Nat} {b : Bool} (h : (noneR p ns).opn = b) : noneE p ns = if b then 8 else 0 := by unfold noneE; rw [h]
theorem noneE_ne (p : Prob) (ns : List Nat) : (noneE p ns != 0) = (noneR p ns).opn := by unfold noneE; cases (noneR p ns).opn <;> rfl
theorem natI_erase (ns : List Nat) (i : Nat) : (ns.map natI).eraseIdx i = (ns.eraseIdx i).map natI := by
  induction ns generalizing i with
  | nil => simp
  | cons a ns ih => cases i <;> simp [ih]
theorem Ints.nil (w : World) (B : Nat) : Ints w B (.slice none 0 0) [] := ⟨by decide, none, 0, rfl, Nat.le_refl _, by decide, fun h => absurd h (Nat.lt_irrefl _)⟩
set_option maxRecDepth 100000 in
set_option maxHeartbeats 2000000 in
theorem core_any (p : Prob) (bv rv : Value) (w : World) {B : Nat} (hbv : Bnds w B bv p.bounds) (hrv : Rls w B rv p.rules) (hB0 : 0 < B) (hB : B ≤ w.heap.size) (hub : U64s p.bounds) (hT : Tab w) :
    Calls Tryz.prog 13 #[.agg #[bv, rv]] w fun e w' => ∃ cv, e = .returned (.tuple #[cv, .int .i64 (coreR p).2]) ∧ Ints w' w'.heap.size cv ((coreR p).1.map natI) ∧ Below w.heap.size w w' := by
  have HBV := Lib.hid hbv; have HRV := Lib.hid hrv; have HUB := Lib.hid hub; have HT := Lib.hid hT
  obtain ⟨ba, bc, rfl⟩ := hbv.slice
  obtain ⟨ra, rc, rfl⟩ := hrv.slice
  obtain ⟨i0, hin, hz0, hz1, hz2⟩ := info_parts Tryz.info3
  clear hbv hrv hub hT
  cases hok : probOk p
  case false =>
    have hres : coreR p = ([], 2) := by unfold coreR; rw [hok]; rfl
    have HOK := Lib.hid hok; have HRES := Lib.hid hres
    clear hok hres
    go_enter Tryz.func13, Tryz.ntmps13
    go_wp2_with fail
    refine (check_any p _ _ _ (HBV.out.below (Below.new1 _ _) hB) (HRV.out.below (Below.new1 _ _) hB) (by simp; omega) HUB.out).mono ?_
    rintro e w2 ⟨rfl, hb2⟩
    rw [HOK.out, show errOf false = 2 from rfl]
    have hfin := (Below.new1 w (.cells #[.slice ba p.bounds.length bc, .slice ra p.rules.length rc] 25)).trans (hb2.mono (by simp))
    clear hb2
    go_wp2
    exact bodyPost_ret (v := .tuple #[.slice none 0 0, .int .i64 2]) (by simp [results, Tryz.results13, go_sem]) rfl (by rw [HRES.out]; exact ⟨_, rfl, Ints.nil _ _, hfin⟩)
  case true =>
    have HF := Lib.hid (probOk_fit hok)
    have HOK := Lib.hid hok
    clear hok
    have hr12 : p.rules.length ≤ 12 := HF.out.2.2.1
    go_enter Tryz.func13, Tryz.ntmps13
    go_wp2_with fail
    refine (check_any p _ _ _ (HBV.out.below (Below.new1 _ _) hB) (HRV.out.below (Below.new1 _ _) hB) (by simp; omega) HUB.out).mono ?_
    rintro e w2 ⟨rfl, hb2⟩
    rw [HOK.out, show errOf true = 0 from rfl]
    have k0 := heap_later (heap_new0 w (.cells #[.slice ba p.bounds.length bc, .slice ra p.rules.length rc] 25)) hb2 (by simp)
    have z0 : w.heap.size < w2.heap.size := (Array.getElem?_eq_some_iff.1 k0).1
    have c1 : w2.cell? ⟨w.heap.size, 1, none⟩ = some (.slice ra p.rules.length rc) := by rw [cell_of_row _ _ _ _ _ _ k0]; rfl
    have hbw2 := (Below.new1 w (.cells #[.slice ba p.bounds.length bc, .slice ra p.rules.length rc] 25)).trans (hb2.mono (by simp))
    have K0 := Lib.hid k0; have HB2 := Lib.hid hbw2
    clear k0 hb2 hbw2
    go_wp2_with fail
    go_loopw [4, 18] (fun yv i wr => ∃ k : Nat, k ≤ p.rules.length ∧ i = .int .i64 k ∧ wr.ownsRow w2.heap.size 3 1 yv k (intsV ((List.range k).map natI)) ∧ Below w2.heap.size w2 wr) (fun _ i _ => p.rules.length - (intOf i).toNat)
    case atStart => exact ⟨0, Nat.zero_le _, rfl, World.ownsRow_nil _ _ _ _, Below.refl _ _⟩
    case round =>
      obtain ⟨k, hk, rfl, hown, hb⟩ := hrel
      by_cases hlt : k < p.rules.length
      · have hrs : (List.range (k + 1)).map natI = (List.range k).map natI ++ [((k : Nat) : Int)] := by rw [List.range_succ, List.map_append]; rfl
        have HOW := Lib.hid hown; have HB := Lib.hid hb; have HRS := Lib.hid hrs
        clear hown hb hrs
        go_wp2_with (at_builtin; refine wpList_append_own _ rfl _ _ 40 rfl w2.heap.size 3 i0 (.int .i64 0) 1 8 Tryz.underlying40 hin hz0 hz1 hz2 rfl (by decide) _ _ _ rfl (HOW.out.alloc _) ⟨wr.heap.size, 0, none⟩ 1 1 (intsV [((k : Nat) : Int)]) rfl rfl ?c1 ?c2 ?c3 ?c4 ?c5 ?_)
        case c1 =>
          intro q u hq
          match q, hq with
          | 0, hq => cases hq; rw [Addr.add_lit]; exact cell_of_one (heap_new0 _ _)
        case c2 => exact ints_one _
        case c3 => unfold maxLen; omega
        case c4 => omega
        case c5 => have := HB.out.size; simp; omega
        intro v' w3 hown3 hgrow3 _
        have hb3 := (HB.out.alloc HB.out.size (.cells #[.int .i64 k] 3)).grown hgrow3 (by have := HB.out.size; simp; omega) (fun q hq => (HOW.out.lt q hq).1)
        rw [intsV_append, ← HRS.out] at hown3
        have HO3 := Lib.hid hown3; have HB3 := Lib.hid hb3
        clear hown3 hgrow3 hb3
        go_wp2
        go_roundw
        case rel => exact ⟨k + 1, by omega, by go_num, HO3.out, HB3.out⟩
        case measure => simp [intOf]; omega
      · have hk2 : k = p.rules.length := by omega
        subst hk2
        have hint : Ints wr wr.heap.size u4 ((allN p).map natI) := ownsRow_ints hown (by omega) (by simp [allN])
        have hlen : ((allN p).map natI).length = p.rules.length := by simp [allN]
        obtain ⟨ya, yc, rfl⟩ := hint.slice
        rw [hlen] at hint ⊢
        have hb' := HB2.out.trans (hb.mono HB2.out.size)
        have k0 := heap_later K0.out hb z0
        have c0 : wr.cell? ⟨w.heap.size, 0, none⟩ = some (.slice ba p.bounds.length bc) := by rw [cell_of_row _ _ _ _ _ _ k0]; rfl
        have c1 : wr.cell? ⟨w.heap.size, 1, none⟩ = some (.slice ra p.rules.length rc) := by rw [cell_of_row _ _ _ _ _ _ k0]; rfl
        have K0 := Lib.hid k0; have HI := Lib.hid hint; have HB := Lib.hid hb'
        clear k0 hint hown hb hb' hlen
        have hal : (allN p).length = p.rules.length := by simp [allN]
        have halt : ∀ n ∈ allN p, n < p.rules.length := fun n hn => List.mem_range.1 hn
        have hsz := HB.out.size
        go_wp2_with fail
        refine (none_any p HOK.out (allN p) (by omega) halt _ _ _ wr (B := wr.heap.size) ((HBV.out.below HB.out hB).mono (by omega)) ((HRV.out.below HB.out hB).mono (by omega)) HI.out (by omega) (Nat.le_refl _) (HT.out.below HB.out (by omega))).mono ?_
        rintro e w4 ⟨rfl, hb4⟩
        have zr : w.heap.size < wr.heap.size := (Array.getElem?_eq_some_iff.1 K0.out).1
        have k0 := heap_later K0.out hb4 zr
        have hb4' := HB.out.trans (hb4.mono HB.out.size)
        have c0 : w4.cell? ⟨w.heap.size, 0, none⟩ = some (.slice ba p.bounds.length bc) := by rw [cell_of_row _ _ _ _ _ _ k0]; rfl
        have c1 : w4.cell? ⟨w.heap.size, 1, none⟩ = some (.slice ra p.rules.length rc) := by rw [cell_of_row _ _ _ _ _ _ k0]; rfl
        have K04 := Lib.hid k0; have HB4 := Lib.hid hb4'; have HI4 := Lib.hid ((HI.out.below hb4 (Nat.le_refl _)).mono hb4.size)
        have HAL := Lib.hid hal; have HALT := Lib.hid halt
        clear k0 hb4 hb4' K0 HI HB hal halt
        cases ho : (noneR p (allN p)).opn
        case true =>
          have hres : coreR p = ([], 8) := by unfold coreR; rw [HOK.out, ho]; rfl
          rw [noneE_of ho, if_pos rfl]
          have HRES := Lib.hid hres
          clear hres ho
          go_wp2_with fail
          exact bodyPost_ret (v := .tuple #[.slice none 0 0, .int .i64 8]) (by simp [results, Tryz.results13, go_sem]) rfl (by rw [HRES.out]; exact ⟨_, rfl, Ints.nil _ _, HB4.out⟩)
        case false =>
          rw [noneE_of ho, if_neg (by decide)]
          cases hnb : noneB p (allN p)
          case false =>
            have hres : coreR p = ([], 5) := by unfold coreR; rw [HOK.out, ho, hnb]; rfl
            have HRES := Lib.hid hres
            clear hres ho hnb
            go_wp2_with fail
            exact bodyPost_ret (v := .tuple #[.slice none 0 0, .int .i64 5]) (by simp [results, Tryz.results13, go_sem]) rfl (by rw [HRES.out]; exact ⟨_, rfl, Ints.nil _ _, HB4.out⟩)
          case true =>
            have hres : coreR p = (match coreRed p p.rules.length (allN p) with | some c => (c, 0) | none => ([], 8)) := by unfold coreR; rw [HOK.out, ho, hnb]; rfl
            have HRES := Lib.hid hres
            clear hres ho hnb
            go_wp2_with fail
            go_loopw [4, 8] (fun yv i wr => ∃ (m : Nat) (ns : List Nat), i = .int .i64 ((m : Int) - 1) ∧ m ≤ ns.length ∧ ns.length ≤ p.rules.length ∧ (∀ n ∈ ns, n < p.rules.length) ∧ coreRed p m ns = coreRed p p.rules.length (allN p) ∧
              Ints wr wr.heap.size yv (ns.map natI) ∧ wr.heap[w.heap.size]? = some (.cells #[.slice ba p.bounds.length bc, .slice ra p.rules.length rc] 25 (0, 0)) ∧ Below w.heap.size w wr) (fun _ i _ => (intOf i + 1).toNat)
            case atStart => exact ⟨p.rules.length, allN p, rfl, by rw [HAL.out]; exact Nat.le_refl _, by rw [HAL.out]; exact Nat.le_refl _, HALT.out, rfl, HI4.out, K04.out, HB4.out⟩
            case round =>
              clear K04 HB4 HI4 c0 c1
              obtain ⟨m, ns, rfl, hm, hnl, hnlt, hcr, hint, k0, hb⟩ := hrel
              have hml : (ns.map natI).length = ns.length := by simp
              obtain ⟨ya, yc, rfl⟩ := hint.slice
              rw [hml] at hint ⊢
              rcases m with _ | m
              · have hres : coreR p = (ns, 0) := by
                  rw [HRES.out, ← hcr]; rfl
                have HI := Lib.hid hint; have HB := Lib.hid hb; have HR := Lib.hid hres
                clear hint hb hres hcr hnlt k0 hml
                go_wp2_with fail
                exact bodyPost_ret (v := .tuple #[.slice ya ns.length yc, .int .i64 0]) (by simp [results, Tryz.results13, go_sem]) rfl (by rw [HR.out]; exact ⟨_, rfl, HI.out, HB.out⟩)
              · have e7 : (((m + 1 : Nat) : Int) - 1) = m := by omega
                rw [e7]
                have hint0 := hint
                obtain ⟨hx0, a', c', hae, hnc, hcm, hrow⟩ := hint
                clear hx0 hnc hcm
                simp only [Value.slice.injEq] at hae
                obtain ⟨rfl, hx, rfl⟩ := hae
                clear hx
                obtain ⟨yb, yo, rfl, hyb, hycell⟩ := hrow (by omega)
                have z0 : w.heap.size < wr.heap.size := (Array.getElem?_eq_some_iff.1 k0).1
                have HI := Lib.hid hint0; have HB := Lib.hid hb; have HCR := Lib.hid hcr; have HNL := Lib.hid hnlt; have K0 := Lib.hid k0; have HML := Lib.hid hml
                clear hint0 hrow hycell hb hcr hnlt k0 hml
                go_wp2_with fail
                refine (clone_ints (ns.map natI) yb yo _ yc _ HI.out (by rw [HML.out]; omega) (by omega)).mono ?_
                rintro r w5 ⟨cv, rfl, hown, hb5⟩
                obtain ⟨g, cp, rfl⟩ : ∃ g cap, cv = .slice (some ⟨g, 0, none⟩) ns.length cap := by
                  obtain ⟨q, hq⟩ : ∃ q, ns.length = q + 1 := ⟨ns.length - 1, by omega⟩
                  rw [hq] at hown ⊢; exact Slice.own_succ hown
                have hgb := (hown.lt g rfl).1
                have HOW := Lib.hid hown; have HB5 := Lib.hid hb5
                clear hown hb5
                go_wp2_with fail
                refine (delete_ints (ns.map natI) g _ cp m _ _ HOW.out (by omega)).mono ?_
                rintro r w6 ⟨rfl, hown, hb6⟩
                have hb6' : Below wr.heap.size wr w6 := HB5.out.trans (hb6.mono hgb)
                have hb6w := HB.out.trans (hb6'.mono (by omega))
                have k6 := heap_later K0.out hb6' z0
                have hel : (ns.eraseIdx m).length = ns.length - 1 := by rw [List.length_eraseIdx, if_pos (by omega)]
                rw [natI_erase] at hown
                have hin6 : Ints w6 w6.heap.size (.slice (some ⟨g, 0, none⟩) (ns.length - 1) cp) ((ns.eraseIdx m).map natI) := ownsRow_ints hown (by omega) (by simp [hel])
                have c0 : w6.cell? ⟨w.heap.size, 0, none⟩ = some (.slice ba p.bounds.length bc) := by rw [cell_of_row _ _ _ _ _ _ k6]; rfl
                have c1 : w6.cell? ⟨w.heap.size, 1, none⟩ = some (.slice ra p.rules.length rc) := by rw [cell_of_row _ _ _ _ _ _ k6]; rfl
                have hlt6 : ∀ n ∈ ns.eraseIdx m, n < p.rules.length := fun n hn => HNL.out n (List.mem_of_mem_eraseIdx hn)
                have hcr2 := HCR.out
                rw [coreRed_succ] at hcr2
                have HI6 := Lib.hid hin6; have HB6 := Lib.hid hb6w; have K6 := Lib.hid k6; have HEL := Lib.hid hel; have HL6 := Lib.hid hlt6; have HIR := Lib.hid ((HI.out.below hb6' (Nat.le_refl _)).mono hb6'.size)
                clear hown hb6 hb6' hb6w k6 hin6 hel hlt6 HOW HB5 K0 HB HI hgb
                have hsz6 := HB6.out.size
                go_wp2_with fail
                refine (none_any p HOK.out (ns.eraseIdx m) (by rw [HEL.out]; omega) HL6.out _ _ _ w6 (B := w6.heap.size) ((HBV.out.below HB6.out hB).mono (by omega)) ((HRV.out.below HB6.out hB).mono (by omega)) HI6.out (by omega) (Nat.le_refl _) (HT.out.below HB6.out (by omega))).mono ?_
                rintro e w7 ⟨rfl, hb7⟩
                have k7 := heap_later K6.out hb7 (Array.getElem?_eq_some_iff.1 K6.out).1
                have HB7 := Lib.hid (HB6.out.trans (hb7.mono HB6.out.size)); have HI7 := Lib.hid ((HI6.out.below hb7 (Nat.le_refl _)).mono hb7.size); have HR7 := Lib.hid ((HIR.out.below hb7 (Nat.le_refl _)).mono hb7.size); have K7 := Lib.hid k7
                clear hb7 k7 c0 c1 HI6 HB6 K6 HIR
                cases ho : (noneR p (ns.eraseIdx m)).opn
                case true =>
                  have hres : coreR p = ([], 8) := by
                    rw [HRES.out, ← hcr2, ho]; rfl
                  rw [noneE_of ho, if_pos rfl]
                  have HR := Lib.hid hres
                  clear hres ho hcr2
                  go_wp2_with fail
                  exact bodyPost_ret (v := .tuple #[.slice none 0 0, .int .i64 8]) (by simp [results, Tryz.results13, go_sem]) rfl (by rw [HR.out]; exact ⟨_, rfl, Ints.nil _ _, HB7.out⟩)
                case false =>
                  rw [noneE_of ho, if_neg (by decide)]
                  rw [ho, if_neg (by decide)] at hcr2
                  cases hnb : noneB p (ns.eraseIdx m) <;> rw [hnb] at hcr2
                  case false =>
                    rw [if_neg (by decide)] at hcr2
                    have HC := Lib.hid hcr2
                    clear hcr2 ho hnb
                    go_wp2
                    go_roundw
                    case rel => exact ⟨m, ns, by go_num, by omega, hnl, HNL.out, HC.out, HR7.out, K7.out, HB7.out⟩
                    case measure => simp [intOf]
                  case true =>
                    rw [if_pos rfl] at hcr2
                    have HC := Lib.hid hcr2
                    clear hcr2 ho hnb
                    go_wp2
                    go_roundw
                    case rel => exact ⟨m, ns.eraseIdx m, by go_num, by rw [HEL.out]; omega, by rw [HEL.out]; omega, HL6.out, HC.out, HI7.out, K7.out, HB7.out⟩
                    case measure => simp [intOf]
end Go.Proofs.YtilbbnjfaoldoaaGreatDoor

namespace Go.Proofs.YtilbbnjfaoldoaaGreatDoor
open Go Go.RowKit
attribute [local go_sem] cell_grow u64_sAnd u64_sOr u64_sDiff sDiff_all zeqI zneI sAnd_bit_zero sAnd_bit_zeroN sAnd_bit_nonzero rowOf_grow rowOk_grow rowOf_alloc rowOk_alloc

theorem row_rangeL {w : World} {b : Nat} {xs : List Value} {t : TypeId} (h : w.heap[b]? = some (.cells xs.toArray t (0, 0))) : w.rangeAt b 0 xs := fun j v hv => by
  rw [Nat.zero_add, cell_of_row _ _ _ _ _ _ h, List.getElem?_toArray]; exact hv
set_option maxRecDepth 100000 in
theorem mk_rule (k lo hi : Int) (va : Option Addr) (vn vc : Nat) (w : World) : Gives Tryz.prog 49 #[.int .i64 k, .int .i64 lo, .int .i64 hi, .slice va vn vc] w (.agg #[.int .i64 k, .slice va vn vc, .int .i64 lo, .int .i64 hi]) := by
  unfold Gives
  go_enter Tryz.func49, Tryz.ntmps49
  go_wp2
  have hinf : (Tryz.prog.info? 62).map (·.size) = some [Value.int .i64 k, .slice va vn vc, .int .i64 lo, .int .i64 hi].length := by kernel_rfl
  exact bodyPost_ret (results_cell1 (p := 8) (ty := 62) rfl rfl (run_loadVar_mid _ _ 0 _ [Value.int .i64 k, .slice va vn vc, .int .i64 lo, .int .i64 hi] _ (row_rangeL (heap_new0 _ _)) Tryz.underlying62 rfl hinf)) rfl ⟨rfl, Below.new1 _ _⟩
/-- The problem A. -/
def pA : Prob := ⟨[⟨0, 7⟩, ⟨0, 7⟩, ⟨0, 7⟩], [⟨3, [0, 1, 2], 0, 0⟩, ⟨2, [0, 1], 0, 0⟩, ⟨6, [2], 3, 3⟩, ⟨6, [0], 2, 3⟩]⟩
def pB : Prob := { pA with bounds := [⟨0, 7⟩, ⟨1, 5⟩, ⟨0, 7⟩] }
def pC : Prob := { pA with rules := pA.rules ++ [⟨1, [2, 1], 0, 0⟩] }
theorem ints_block {w : World} {b : Nat} {xs : List Int} (h : w.heap[b]? = some (.cells (intsV xs).toArray 3 (0, 0))) (hl : xs.length ≤ 1000) : Ints w w.heap.size (.slice (some ⟨b, 0, none⟩) xs.length xs.length) xs :=
  ⟨by omega, _, _, rfl, Nat.le_refl _, by unfold maxLen; omega, fun _ => ⟨b, 0, rfl, (Array.getElem?_eq_some_iff.1 h).1, fun i hi => by
    rw [Nat.zero_add, cell_of_row _ _ _ _ _ _ h, List.getElem?_toArray, ints_get xs i (by omega)]⟩⟩
/-- Rules that have just been made, in a row of the call's own. -/
def MadeR (rs : List Rl) (base : Nat) (rv : Value) (w : World) : Prop := ∃ cs, w.ownsRow base 62 4 rv rs.length cs ∧ ∀ i, i < rs.length →
    cs[i * 4]? = some (.int .i64 (rget rs i).kind) ∧ cs[i * 4 + 2]? = some (.int .i64 (rget rs i).low) ∧ cs[i * 4 + 3]? = some (.int .i64 (rget rs i).high) ∧
      ∃ y, cs[i * 4 + 1]? = some (.slice (some ⟨y, 0, none⟩) (rget rs i).vars.length (rget rs i).vars.length) ∧ w.heap[y]? = some (.cells (intsV (rget rs i).vars).toArray 3 (0, 0))
/-- A problem that has just been made: its bounds in a block of their own, its rules in a row of the call's own. -/
structure Made (p : Prob) (base : Nat) (bv rv : Value) (w : World) : Prop where
  bnds : ∃ g, base ≤ g ∧ bv = .slice (some ⟨g, 0, none⟩) p.bounds.length p.bounds.length ∧ w.heap[g]? = some (.cells (bCells p.bounds).toArray 47 (0, 0))
  rls : MadeR p.rules base rv w
set_option maxRecDepth 100000 in
set_option maxHeartbeats 1000000 in
theorem mkA (w : World) : Calls Tryz.prog 19 #[] w fun e w' => ∃ bv rv, e = .returned (.agg #[bv, rv]) ∧ Made pA w.heap.size bv rv w' ∧ Below w.heap.size w w' := by
  go_enter Tryz.func19, Tryz.ntmps19
  go_wp2_with fail
  refine (mk_rule _ _ _ _ _ _ _).mono ?_
  rintro e w1 ⟨rfl, hb1⟩
  have h3 := heap_new3 w (.cells #[.slice none 0 0, .slice none 0 0] 25) (.cells (bCells pA.bounds).toArray 47) (.cells (intsV [0, 1, 2]).toArray 3)
  have n3 := Below.new3 w (.cells #[.slice none 0 0, .slice none 0 0] 25) (.cells (bCells pA.bounds).toArray 47) (.cells (intsV [0, 1, 2]).toArray 3)
  have r1 := heap_later h3.1 hb1 (by simp; try omega)
  have b1 := heap_later h3.2.1 hb1 (by simp; try omega)
  have y1 := heap_later h3.2.2 hb1 (by simp)
  have HB1 := Lib.hid (n3.trans (hb1.mono (by simp; try omega)))
  have R1 := Lib.hid r1; have B1 := Lib.hid b1; have Y1 := Lib.hid y1
  have s1 : w.heap.size + 3 ≤ w1.heap.size := by have := hb1.size; simpa using this
  clear h3 n3 hb1 r1 b1 y1
  go_wp2_with fail
  refine (mk_rule _ _ _ _ _ _ _).mono ?_
  rintro e w2 ⟨rfl, hb2⟩
  have hn := Below.new1 w1 (.cells (intsV [0, 1]).toArray 3)
  have hb2' := hn.trans (hb2.mono (by simp))
  have Y2 := Lib.hid (heap_later (heap_new0 w1 (.cells (intsV [0, 1]).toArray 3)) hb2 (by simp))
  have HB2 := Lib.hid hb2'
  have s2 : w1.heap.size + 1 ≤ w2.heap.size := by have := hb2.size; simpa using this
  clear hn hb2 hb2'
  go_wp2_with fail
  refine (mk_rule _ _ _ _ _ _ _).mono ?_
  rintro e w3 ⟨rfl, hb3⟩
  have hn := Below.new1 w2 (.cells (intsV [2]).toArray 3)
  have hb3' := hn.trans (hb3.mono (by simp))
  have Y3 := Lib.hid (heap_later (heap_new0 w2 (.cells (intsV [2]).toArray 3)) hb3 (by simp))
  have HB3 := Lib.hid hb3'
  have s3 : w2.heap.size + 1 ≤ w3.heap.size := by have := hb3.size; simpa using this
  clear hn hb3 hb3'
  go_wp2_with fail
  refine (mk_rule _ _ _ _ _ _ _).mono ?_
  rintro e w4 ⟨rfl, hb4⟩
  have hn := Below.new1 w3 (.cells (intsV [0]).toArray 3)
  have hb4' := hn.trans (hb4.mono (by simp))
  have Y4 := Lib.hid (heap_later (heap_new0 w3 (.cells (intsV [0]).toArray 3)) hb4 (by simp))
  have HB4 := Lib.hid hb4'
  have s4 : w3.heap.size + 1 ≤ w4.heap.size := by have := hb4.size; simpa using this
  clear hn hb4 hb4'
  have HB14 := Lib.hid ((HB2.out.trans (HB3.out.mono (by omega))).trans (HB4.out.mono (by omega)))
  have r4 := heap_later R1.out HB14.out (by omega)
  have c0 : w4.cell? ⟨w.heap.size, 0, none⟩ = some (.slice none 0 0) := by rw [cell_of_row _ _ _ _ _ _ r4]; rfl
  have c1 : w4.cell? ⟨w.heap.size, 1, none⟩ = some (.slice none 0 0) := by rw [cell_of_row _ _ _ _ _ _ r4]; rfl
  have f0 : w4.frozen? ⟨w.heap.size, 0, none⟩ = false := by simp [World.frozen?, r4]
  have f1 : w4.frozen? ⟨w.heap.size, 1, none⟩ = false := by simp [World.frozen?, r4]
  have z0 : w.heap.size < w4.heap.size := by omega
  have R4 := Lib.hid r4
  clear r4
  go_wp2_with fail
  have j1 := set_row (o := 0) (v := .slice (some ⟨w.heap.size + 1, 0, none⟩) 3 3) R4.out
  have j2 := set_row (o := 1) (v := .slice (some ⟨w4.heap.size, 0, none⟩) 4 4) j1
  obtain ⟨rc, hrc⟩ : ∃ rc : List Value, rc = [.int .i64 3, .slice (some ⟨w.heap.size + 1 + 1, 0, none⟩) 3 3, .int .i64 0, .int .i64 0, .int .i64 2, .slice (some ⟨w1.heap.size, 0, none⟩) 2 2, .int .i64 0, .int .i64 0, .int .i64 6, .slice (some ⟨w2.heap.size, 0, none⟩) 1 1, .int .i64 3, .int .i64 3, .int .i64 6, .slice (some ⟨w3.heap.size, 0, none⟩) 1 1, .int .i64 2, .int .i64 3] := ⟨_, rfl⟩
  refine abs_post (fun V => V.heap[w.heap.size]? = some (.cells #[.slice (some ⟨w.heap.size + 1, 0, none⟩) 3 3, .slice (some ⟨w4.heap.size, 0, none⟩) 4 4] 25 (0, 0)) ∧ (∀ q o, w4.heap[q]? = some o → q ≠ w.heap.size → V.heap[q]? = some o) ∧ V.heap[w4.heap.size]? = some (.cells rc.toArray 62 (0, 0)) ∧ Below w.heap.size w V)
    ⟨heap_old j2, fun q o e hq => heap_old ((Below.heap_setCell _ _ _ _ hq).trans ((Below.heap_setCell _ _ _ _ hq).trans e)), by rw [hrc]; exact heap_at (by simp [World.setCell]), ?_⟩ ?_
  · exact (((HB1.out.trans (HB14.out.mono (by omega))).setCell (Nat.le_refl _) _).setCell (Nat.le_refl _) _).alloc (by simp [World.setCell]; omega) _
  clear j1 j2 c0 c1 f0 f1
  rintro V ⟨kr, hkeep, kk, hb⟩
  have hinf : (Tryz.prog.info? 25).map (·.size) = some [Value.slice (some ⟨w.heap.size + 1, 0, none⟩) 3 3, .slice (some ⟨w4.heap.size, 0, none⟩) 4 4].length := by kernel_rfl
  refine bodyPost_ret (results_cell1 (p := 0) (ty := 25) rfl rfl (run_loadVar_mid _ _ 0 _ [Value.slice (some ⟨w.heap.size + 1, 0, none⟩) 3 3, .slice (some ⟨w4.heap.size, 0, none⟩) 4 4] _ (row_rangeL kr) Tryz.underlying25 rfl hinf)) rfl ⟨_, _, rfl, ⟨⟨w.heap.size + 1, by omega, rfl, hkeep _ _ (heap_later B1.out HB14.out (by omega)) (by omega)⟩, rc, ⟨by rw [hrc]; rfl, .inr ⟨w4.heap.size, 4, rc.toArray, rfl, by omega, kk, by decide, by decide, by rw [hrc]; rfl, by simp [hrc]; rfl⟩⟩, fun i hi => ?_⟩, hb⟩
  have hi4 : i < 4 := hi
  have y1 := hkeep _ _ (heap_later Y1.out HB14.out (by omega)) (by omega)
  have y2 := hkeep _ _ (heap_later (heap_later Y2.out HB3.out (by omega)) HB4.out (by omega)) (by omega)
  have y3 := hkeep _ _ (heap_later Y3.out HB4.out (by omega)) (by omega)
  have y4 := hkeep _ _ Y4.out (by omega)
  subst hrc
  match i, hi4 with
  | 0, _ => exact ⟨rfl, rfl, rfl, _, rfl, y1⟩
  | 1, _ => exact ⟨rfl, rfl, rfl, _, rfl, y2⟩
  | 2, _ => exact ⟨rfl, rfl, rfl, _, rfl, y3⟩
  | 3, _ => exact ⟨rfl, rfl, rfl, _, rfl, y4⟩
end Go.Proofs.YtilbbnjfaoldoaaGreatDoor

namespace Go.Proofs.YtilbbnjfaoldoaaGreatDoor
open Go Go.RowKit
attribute [local go_sem] cell_grow u64_sAnd u64_sOr u64_sDiff sDiff_all zeqI zneI sAnd_bit_zero sAnd_bit_zeroN sAnd_bit_nonzero rowOf_grow rowOk_grow rowOf_alloc rowOk_alloc

theorem Made.ck {p : Prob} {base : Nat} {bv rv : Value} {w w' : World} (h : Made p base bv rv w) (hc : CK w w') : Made p base bv rv w' := by
  obtain ⟨⟨g, h1, h2, h3⟩, cs, h4, h5⟩ := h
  refine ⟨⟨g, h1, h2, hc.same _ _ _ _ h3⟩, cs, own_ck h4 hc, fun i hi => ?_⟩
  obtain ⟨e1, e2, e3, y, e4, e5⟩ := h5 i hi
  exact ⟨e1, e2, e3, y, e4, hc.same _ _ _ _ e5⟩
theorem Made.mono {p : Prob} {base base' : Nat} {bv rv : Value} {w : World} (h : Made p base bv rv w) (hb : base' ≤ base) : Made p base' bv rv w := by
  obtain ⟨⟨g, h1, h2, h3⟩, cs, h4, h5⟩ := h
  exact ⟨⟨g, by omega, h2, h3⟩, cs, own_mono h4 hb, h5⟩
/-- What is laid into a block of another type does not show. -/
theorem MadeR.setCell {rs : List Rl} {base b o : Nat} {rv x : Value} {w : World} {c : Array Value} {t : TypeId} (h : MadeR rs base rv w) (hb : w.heap[b]? = some (.cells c t (0, 0))) (h2 : t ≠ 62) (h3 : t ≠ 3) : MadeR rs base rv (w.setCell ⟨b, o, none⟩ x) := by
  obtain ⟨cs, h4, h5⟩ := h
  have key : ∀ (e : TypeId), t ≠ e → ∀ (k : Nat) (c : Array Value), w.heap[k]? = some (Obj.cells c e (0, 0)) → (w.setCell ⟨b, o, none⟩ x).heap[k]? = some (Obj.cells c e (0, 0)) := fun e he k c' hk => by
    refine (Below.heap_setCell _ _ _ _ (fun hh => ?_)).trans hk
    subst hh
    rw [hb] at hk
    cases hk
    exact he rfl
  refine ⟨cs, own_type h4 (key _ h2), fun i hi => ?_⟩
  obtain ⟨e1, e2, e3, y, e4, e5⟩ := h5 i hi
  exact ⟨e1, e2, e3, y, e4, key _ h3 _ _ e5⟩
theorem MadeR.ck {rs : List Rl} {base : Nat} {rv : Value} {w w' : World} (h : MadeR rs base rv w) (hc : CK w w') : MadeR rs base rv w' := by
  obtain ⟨cs, h4, h5⟩ := h
  refine ⟨cs, own_ck h4 hc, fun i hi => ?_⟩
  obtain ⟨e1, e2, e3, y, e4, e5⟩ := h5 i hi
  exact ⟨e1, e2, e3, y, e4, hc.same _ _ _ _ e5⟩
theorem Made.slice {p : Prob} {base : Nat} {bv rv : Value} {w : World} (h : Made p base bv rv w) : ∃ a n c, rv = .slice a n c := by
  obtain ⟨_, cs, h4, _⟩ := h
  rcases h4.2 with ⟨h, _⟩ | ⟨g, cap, cur, h, _⟩
  · exact ⟨_, _, _, h⟩
  · exact ⟨_, _, _, h⟩
/-- Read as a problem. -/
theorem Made.bnds' {p : Prob} {base : Nat} {bv rv : Value} {w : World} (h : Made p base bv rv w) (hl : p.bounds.length ≤ 1000) : Bnds w w.heap.size bv p.bounds := by
  obtain ⟨⟨g, h1, rfl, h3⟩, _⟩ := h
  exact ⟨by omega, _, _, rfl, Nat.le_refl _, by unfold maxLen; omega, fun _ => ⟨g, 0, rfl, (Array.getElem?_eq_some_iff.1 h3).1, fun i hi => by
    rw [Nat.zero_add, cell_of_row _ _ _ _ _ _ h3, List.getElem?_toArray, bCells_get _ _ hi]⟩⟩
theorem Made.rls' {p : Prob} {base : Nat} {bv rv : Value} {w : World} (h : Made p base bv rv w) (hl : p.rules.length ≤ 1000) (hv : ∀ i, (rget p.rules i).vars.length ≤ 1000) : Rls w w.heap.size rv p.rules := by
  obtain ⟨_, cs, h1, h2⟩ := h
  refine ⟨fun i => cs[i]?.getD undef, ownsRow_row h1 (by omega) (fun i hi => ?_), fun i hi => ?_⟩
  · have : i < cs.length := by rw [h1.1]; exact hi
    rw [List.getElem?_eq_getElem this]; rfl
  · obtain ⟨e1, e2, e3, y, e4, e5⟩ := h2 i hi
    simp only [e1, e2, e3, e4, Option.getD_some]
    exact ⟨trivial, ints_block e5 (hv i), trivial, trivial⟩
set_option maxRecDepth 100000 in
set_option maxHeartbeats 1000000 in
theorem mkB (w : World) : Calls Tryz.prog 21 #[] w fun e w' => ∃ bv rv, e = .returned (.agg #[bv, rv]) ∧ Made pB w.heap.size bv rv w' ∧ Below w.heap.size w w' := by
  go_enter Tryz.func21, Tryz.ntmps21
  go_wp2_with fail
  refine (mkA _).mono ?_
  rintro e w1 ⟨bv, rv, rfl, hm, hb1⟩
  have r1 := heap_later (heap_new0 w (.cells #[.slice none 0 0, .slice none 0 0] 25)) hb1 (by simp)
  have hb := (Below.new1 w (.cells #[.slice none 0 0, .slice none 0 0] 25)).trans (hb1.mono (by simp))
  obtain ⟨ra, rn, rc, rfl⟩ := hm.slice
  have hm := hm.mono (show w.heap.size ≤ (w.alloc (.cells #[.slice none 0 0, .slice none 0 0] 25)).heap.size by simp)
  have hmm := hm
  obtain ⟨⟨g, hg, rfl, kg⟩, hrl⟩ := hmm
  have hg2 : w.heap.size < g := by
    refine Nat.lt_of_le_of_ne hg (fun h => ?_)
    subst h
    rw [r1] at kg; cases kg
  have zg : g < w1.heap.size := (Array.getElem?_eq_some_iff.1 kg).1
  have c2 : w1.cell? ⟨g, 2, none⟩ = some (.int .u64 0) := by rw [cell_of_row _ _ _ _ _ _ kg]; rfl
  have c3 : w1.cell? ⟨g, 3, none⟩ = some (.int .u64 7) := by rw [cell_of_row _ _ _ _ _ _ kg]; rfl
  have g2 : w1.frozen? ⟨g, 2, none⟩ = false := by simp [World.frozen?, kg]
  have g3 : w1.frozen? ⟨g, 3, none⟩ = false := by simp [World.frozen?, kg]
  have z0 : w.heap.size < w1.heap.size := by omega
  have e0 : w1.cell? ⟨w.heap.size, 0, none⟩ = some (.slice none 0 0) := by rw [cell_of_row _ _ _ _ _ _ r1]; rfl
  have e1 : w1.cell? ⟨w.heap.size, 1, none⟩ = some (.slice none 0 0) := by rw [cell_of_row _ _ _ _ _ _ r1]; rfl
  have f0 : w1.frozen? ⟨w.heap.size, 0, none⟩ = false := by simp [World.frozen?, r1]
  have f1 : w1.frozen? ⟨w.heap.size, 1, none⟩ = false := by simp [World.frozen?, r1]
  have hne1 : g ≠ w.heap.size := by omega
  have R1 := Lib.hid r1; have HM := Lib.hid hm; have HB := Lib.hid hb; have KG := Lib.hid kg
  clear r1 hm hb kg hb1 hrl
  go_wp2_with fail
  have j1 := set_row (o := 2) (v := .int .u64 1) KG.out
  have j2 := set_row (o := 3) (v := .int .u64 5) j1
  have m2 := (HM.out.rls.setCell (o := 2) (x := .int .u64 1) KG.out (by decide) (by decide)).setCell (o := 3) (x := .int .u64 5) j1 (by decide) (by decide)
  have q1 := (Below.heap_setCell ((w1.setCell ⟨g, 2, none⟩ (.int .u64 1))) ⟨g, 3, none⟩ (.int .u64 5) _ hne1.symm).trans ((Below.heap_setCell w1 ⟨g, 2, none⟩ (.int .u64 1) _ hne1.symm).trans R1.out)
  have q2 := set_row (o := 0) (v := .slice (some ⟨g, 0, none⟩) pA.bounds.length pA.bounds.length) q1
  have q3 := set_row (o := 1) (v := .slice ra rn rc) q2
  have m3 := (m2.setCell (o := 0) (x := .slice (some ⟨g, 0, none⟩) pA.bounds.length pA.bounds.length) q1 (by decide) (by decide)).setCell (o := 1) (x := .slice ra rn rc) q2 (by decide) (by decide)
  have k3 := (Below.heap_setCell _ ⟨w.heap.size, 1, none⟩ (.slice ra rn rc) _ hne1).trans ((Below.heap_setCell _ ⟨w.heap.size, 0, none⟩ (.slice (some ⟨g, 0, none⟩) pA.bounds.length pA.bounds.length) _ hne1).trans j2)
  have hb5 := (((HB.out.setCell (p := ⟨g, 2, none⟩) hg (.int .u64 1)).setCell (p := ⟨g, 3, none⟩) hg (.int .u64 5)).setCell (p := ⟨w.heap.size, 0, none⟩) (Nat.le_refl _) (.slice (some ⟨g, 0, none⟩) pA.bounds.length pA.bounds.length)).setCell (p := ⟨w.heap.size, 1, none⟩) (Nat.le_refl _) (.slice ra rn rc)
  have hinf : (Tryz.prog.info? 25).map (·.size) = some [Value.slice (some ⟨g, 0, none⟩) pA.bounds.length pA.bounds.length, .slice ra rn rc].length := by kernel_rfl
  refine bodyPost_ret (results_cell1 (p := 0) (ty := 25) rfl rfl (run_loadVar_mid _ _ 0 _ [Value.slice (some ⟨g, 0, none⟩) pA.bounds.length pA.bounds.length, .slice ra rn rc] _ (row_rangeL (heap_old q3)) Tryz.underlying25 rfl hinf)) rfl ⟨_, _, rfl, ⟨⟨g, hg, rfl, heap_old k3⟩, m3.ck (CK.below (Below.new1 _ _))⟩, hb5.alloc hb5.size _⟩
end Go.Proofs.YtilbbnjfaoldoaaGreatDoor

namespace Go.Proofs.YtilbbnjfaoldoaaGreatDoor
open Go Go.RowKit
attribute [local go_sem] cell_grow u64_sAnd u64_sOr u64_sDiff sDiff_all zeqI zneI sAnd_bit_zero sAnd_bit_zeroN sAnd_bit_nonzero rowOf_grow rowOk_grow rowOf_alloc rowOk_alloc

structure CAt (n0 t1 base : Nat) (bv rv : Value) (w V : World) : Prop where
  made : Made pA base bv rv V
  t : V.heap[t1]? = some (.cells #[bv, rv] 25 (0, 0))
  r : V.heap[n0]? = some (.cells #[.slice none 0 0, .slice none 0 0] 25 (0, 0))
  low : Below w.heap.size w V
theorem CAt.below {n0 t1 base : Nat} {bv rv : Value} {w V V' : World} (h : CAt n0 t1 base bv rv w V) (hb : Below V.heap.size V V') : CAt n0 t1 base bv rv w V' :=
  ⟨h.made.ck (CK.below hb), heap_later h.t hb (Array.getElem?_eq_some_iff.1 h.t).1, heap_later h.r hb (Array.getElem?_eq_some_iff.1 h.r).1, h.low.trans (hb.mono h.low.size)⟩
theorem MadeR.appended {w1 w2 : World} {base : Nat} {v v' : Value} {rs : List Rl} {f : Rl} {cs : List Value} {y : Nat} (hc : w1.ownsRow base 62 4 v rs.length cs) (hg : w1.grownBy w2 v.ownBlock)
    (hr : ∀ i, i < rs.length → cs[i * 4]? = some (.int .i64 (rget rs i).kind) ∧ cs[i * 4 + 2]? = some (.int .i64 (rget rs i).low) ∧ cs[i * 4 + 3]? = some (.int .i64 (rget rs i).high) ∧
      ∃ y, cs[i * 4 + 1]? = some (.slice (some ⟨y, 0, none⟩) (rget rs i).vars.length (rget rs i).vars.length) ∧ w1.heap[y]? = some (.cells (intsV (rget rs i).vars).toArray 3 (0, 0)))
    (hy : w1.heap[y]? = some (.cells (intsV f.vars).toArray 3 (0, 0))) (h2 : w2.ownsRow base 62 4 v' (rs.length + 1) (cs ++ [.int .i64 f.kind, .slice (some ⟨y, 0, none⟩) f.vars.length f.vars.length, .int .i64 f.low, .int .i64 f.high])) : MadeR (rs ++ [f]) base v' w2 := by
  have hl : cs.length = rs.length * 4 := hc.1
  have key : ∀ (k : Nat) (c : Array Value), w1.heap[k]? = some (.cells c 3 (0, 0)) → w2.heap[k]? = some (.cells c 3 (0, 0)) := fun k c hk =>
    (hg.block k (Array.getElem?_eq_some_iff.1 hk).1 (fun hh => own_apart hc hk (by decide) _ hh.symm rfl)).trans hk
  refine ⟨_, by rw [List.length_append]; exact h2, fun i hi => ?_⟩
  rw [rget_snoc]
  by_cases h : i < rs.length
  · simp only [if_pos h]
    obtain ⟨e1, e2, e3, y', e4, e5⟩ := hr i h
    rw [List.getElem?_append_left (by omega), List.getElem?_append_left (by omega), List.getElem?_append_left (by omega), List.getElem?_append_left (by omega)]
    exact ⟨e1, e2, e3, y', e4, key _ _ e5⟩
  · have hi2 : i = rs.length := by simp at hi; omega
    subst hi2
    simp only [Nat.lt_irrefl, if_false, if_true]
    rw [List.getElem?_append_right (by omega), List.getElem?_append_right (by omega), List.getElem?_append_right (by omega), List.getElem?_append_right (by omega), hl]
    simp only [Nat.sub_self, Nat.add_sub_cancel_left]
    exact ⟨rfl, rfl, rfl, y, rfl, key _ _ hy⟩
set_option maxRecDepth 100000 in
set_option maxHeartbeats 1000000 in
theorem mkC (w : World) : Calls Tryz.prog 22 #[] w fun e w' => ∃ bv rv, e = .returned (.agg #[bv, rv]) ∧ Made pC w.heap.size bv rv w' ∧ Below w.heap.size w w' := by
  go_enter Tryz.func22, Tryz.ntmps22
  go_wp2_with fail
  refine (mkA _).mono ?_
  rintro e w1 ⟨bv, rv, rfl, hm, hb1⟩
  have r1 := heap_later (heap_new0 w (.cells #[.slice none 0 0, .slice none 0 0] 25)) hb1 (by simp)
  have hb := (Below.new1 w (.cells #[.slice none 0 0, .slice none 0 0] 25)).trans (hb1.mono (by simp))
  obtain ⟨ra, rn, rc, rfl⟩ := hm.slice
  have hm := hm.mono (show w.heap.size ≤ (w.alloc (.cells #[.slice none 0 0, .slice none 0 0] 25)).heap.size by simp)
  obtain ⟨ba, bn, bc, rfl⟩ : ∃ a n c, bv = .slice a n c := by
    obtain ⟨g, _, h, _⟩ := hm.bnds
    exact ⟨_, _, _, h⟩
  have HM := Lib.hid hm; have HB := Lib.hid hb; have R1 := Lib.hid r1
  have z0 : w.heap.size < w1.heap.size := (Array.getElem?_eq_some_iff.1 r1).1
  clear hm hb r1 hb1
  go_upto_region 2 with fail
  refine abs_wp (fun V => CAt w.heap.size w1.heap.size w.heap.size (.slice ba bn bc) (.slice ra rn rc) w V ∧ w1.heap.size < V.heap.size) ⟨⟨HM.out.ck (CK.below (Below.new1 _ _)), heap_new0 _ _, heap_old R1.out, HB.out.trans ((Below.new1 _ _).mono HB.out.size)⟩, by simp⟩ ?_
  rintro V0 ⟨h0, zt⟩
  have C0 := Lib.hid (h0.below (Below.drewn (Below.refl _ _)))
  clear h0 HM HB R1
  refine wp_region_held_drew (S := fun _ => True) (by kernel_rfl) trivial (fun hHeld => ?_)
  refine wpAnyH_take (i := 0) (oi := { dst := some 3, op := Op.fieldAddr 25 (Operand.tmp 1) 1, type := 0, pos := "law.go:28", after := #[], guard := none }) (v := ?_) rfl (by kernel_rfl) (by kernel_rfl) (by kernel_rfl) (fun _ _ _ h => h) (Or.inl ⟨by rfl, ?_⟩) (by assumption) ?_
  rotate_left
  · intro w hSw
    go_simp
    try with_reducible rfl
  try simp only [Act.put, List.setIfInBounds_toArray, List.set_cons_zero, List.set_cons_succ]
  refine wpAnyH_ready (rs := [1, 2]) (by kernel_rfl) (by simp) ?_
  refine AllReadyH.cons (o := { dst := some 4, op := Op.load 23 (Operand.tmp 3), type := 23, pos := "law.go:28", after := #[{ on := 0, ground := Ground.data }], guard := none }) rfl (fun K hK => ?_) (AllReadyH.cons (o := { dst := some 5, op := Op.buildSlice 40 2 #[(0, Operand.const (Value.int IntKind.i64 2)), (1, Operand.const (Value.int IntKind.i64 1))], type := 40, pos := "law.go:28", after := #[], guard := none }) rfl (fun K hK => ?_) AllReadyH.nil)
  · have tl : V0.drew.cell? ⟨w1.heap.size, 1, none⟩ = some (.slice ra rn rc) := by rw [cell_of_row _ _ _ _ _ _ C0.out.t]; rfl
    go_simp
    refine hK.out _ _ trivial (fun _ => ?_)
    clear hK K
    try simp only [Act.put, List.setIfInBounds_toArray, List.set_cons_zero, List.set_cons_succ]
    clear tl
    refine wpAnyH_ready (rs := [2]) (by kernel_rfl) (by simp) ?_
    refine AllReadyH.cons (o := { dst := some 5, op := Op.buildSlice 40 2 #[(0, Operand.const (Value.int IntKind.i64 2)), (1, Operand.const (Value.int IntKind.i64 1))], type := 40, pos := "law.go:28", after := #[], guard := none }) rfl (fun K hK => ?_) AllReadyH.nil
    go_simp
    refine hK.out _ _ trivial (fun _ => ?_)
    clear hK K
    try simp only [Act.put, List.setIfInBounds_toArray, List.set_cons_zero, List.set_cons_succ]
    refine abs_anyH (fun Z => CAt w.heap.size w1.heap.size w.heap.size (.slice ba bn bc) (.slice ra rn rc) w Z ∧ Z.heap[V0.drew.heap.size]? = some (.cells (intsV [2, 1]).toArray 3 (0, 0))) ⟨C0.out.below (Below.new1 _ _), heap_new0 V0.drew _⟩ ?_
    rintro V1 ⟨hc1, hy1⟩
    have C1 := Lib.hid hc1; have Y1 := Lib.hid hy1
    clear hc1 hy1
    refine wpAnyH_ready (rs := [3]) (by kernel_rfl) (by simp) ?_
    refine AllReadyH.cons (o := { dst := some 6, op := Op.call { callee := Callee.value (Operand.func 49), args := #[Operand.const (Value.int IntKind.i64 1), Operand.const (Value.int IntKind.i64 0), Operand.const (Value.int IntKind.i64 0), Operand.tmp 5], argTypes := #[60, 3, 3, 40] }, type := 62, pos := "law.go:28", after := #[{ on := 2, ground := Ground.data }], guard := none }) rfl (fun K hK => ?_) AllReadyH.nil
    go_simp
    refine (mk_rule _ _ _ _ _ _ _).mono ?_
    rintro e V2 ⟨rfl, hbb⟩
    have C2 := Lib.hid (C1.out.below hbb); have Y2 := Lib.hid (heap_later Y1.out hbb (Array.getElem?_eq_some_iff.1 Y1.out).1)
    clear hbb
    go_wp2_with fail
    refine hK.out _ _ trivial (fun _ => ?_)
    clear hK K
    try simp only [Act.put, List.setIfInBounds_toArray, List.set_cons_zero, List.set_cons_succ]
    refine wpAnyH_ready (rs := [4]) (by kernel_rfl) (by simp) ?_
    refine AllReadyH.cons (o := { dst := some 7, op := Op.buildSlice 23 1 #[(0, Operand.tmp 6)], type := 23, pos := "law.go:28", after := #[{ on := 3, ground := Ground.data }], guard := none }) rfl (fun K hK => ?_) AllReadyH.nil
    go_simp
    refine hK.out _ _ trivial (fun _ => ?_)
    clear hK K
    try simp only [Act.put, List.setIfInBounds_toArray, List.set_cons_zero, List.set_cons_succ]
    refine abs_anyH (fun Z => CAt w.heap.size w1.heap.size w.heap.size (.slice ba bn bc) (.slice ra rn rc) w Z ∧ Z.heap[V0.drew.heap.size]? = some (.cells (intsV [2, 1]).toArray 3 (0, 0)) ∧ Z.heap[V2.heap.size]? = some (.cells #[.int .i64 1, .slice (some ⟨V0.drew.heap.size, 0, none⟩) 2 2, .int .i64 0, .int .i64 0] 62 (0, 0)))
      ⟨C2.out.below (Below.new1 _ _), heap_old Y2.out, heap_new0 V2 _⟩ ?_
    rintro V3 ⟨hc1, hy1, hk1⟩
    have C3 := Lib.hid hc1; have Y3 := Lib.hid hy1; have K3 := Lib.hid hk1
    clear hc1 hy1 hk1
    refine wpAnyH_ready (rs := [5]) (by kernel_rfl) (by simp) ?_
    refine AllReadyH.cons (o := { dst := some 8, op := Op.call { callee := Callee.builtin Builtin.append, args := #[Operand.tmp 4, Operand.tmp 7], argTypes := #[23, 23] }, type := 23, pos := "law.go:28", after := #[{ on := 1, ground := Ground.data }, { on := 4, ground := Ground.data }, { on := 3, ground := Ground.chain }], guard := none }) rfl (fun K hK => ?_) AllReadyH.nil
    rw [if_pos (by rfl)]
    obtain ⟨i0, hin, hz0, hz1, hz2⟩ := info_parts Tryz.info63
    obtain ⟨cs, hcs, hcr⟩ := C3.out.made.rls
    have hx3 := C3.out.low.size
    refine wp_append_own V3 _ _ 23 rfl w.heap.size 62 i0 _ 4 48 Tryz.underlying23 hin hz0 hz1 hz2 rfl (by decide) _ 4 cs rfl hcs ⟨V2.heap.size, 0, none⟩ 1 1 [.int .i64 1, .slice (some ⟨V0.drew.heap.size, 0, none⟩) 2 2, .int .i64 0, .int .i64 0] rfl rfl ?_ ?_ (by decide) (by decide) hx3 ?_
    · intro q u hq
      rw [Addr.add_lit, Nat.zero_add, cell_of_row _ _ _ _ _ _ K3.out, List.getElem?_toArray]; exact hq
    · intro u hu
      simp only [List.mem_cons, List.not_mem_nil, or_false] at hu
      rcases hu with rfl | rfl | rfl | rfl <;> rfl
    intro v' V4 hown4 hgrow4 _
    have hmr : MadeR pC.rules w.heap.size v' V4 := MadeR.appended (rs := pA.rules) (f := ⟨1, [2, 1], 0, 0⟩) hcs hgrow4 hcr Y3.out hown4
    have hkb : ∀ (k : Nat) (c : Array Value) (t : TypeId), V3.heap[k]? = some (.cells c t (0, 0)) → t ≠ 62 → V4.heap[k]? = some (.cells c t (0, 0)) := fun k c t hk ht =>
      (hgrow4.block k (Array.getElem?_eq_some_iff.1 hk).1 (fun hh => own_apart hcs hk ht _ hh.symm rfl)).trans hk
    obtain ⟨g, hg1, hg2, hg3⟩ := C3.out.made.bnds
    have hg4 := hkb _ _ _ hg3 (by decide)
    have ht4 := hkb _ _ _ C3.out.t (by decide)
    have hr4 := hkb _ _ _ C3.out.r (by decide)
    have hb4 : Below w.heap.size w V4 := C3.out.low.grown hgrow4 hx3 (fun q hq => (hcs.lt q hq).1)
    obtain ⟨g5, cp, rfl⟩ := Slice.own_succ hown4
    refine hK.out _ _ trivial (fun _ => ?_)
    clear hK K
    try simp only [Act.put, List.setIfInBounds_toArray, List.set_cons_zero, List.set_cons_succ]
    have tl : V4.cell? ⟨w1.heap.size, 1, none⟩ = some (.slice ra rn rc) := by rw [cell_of_row _ _ _ _ _ _ ht4]; rfl
    have tf : V4.frozen? ⟨w1.heap.size, 1, none⟩ = false := by simp [World.frozen?, ht4]
    have HMR := Lib.hid hmr; have HG4 := Lib.hid hg4; have HT4 := Lib.hid ht4; have HR4 := Lib.hid hr4; have HB4 := Lib.hid hb4; have HG2 := Lib.hid hg2
    clear hmr hkb hg3 hg4 ht4 hr4 hb4 hown4 hgrow4 hcr hcs hg2
    refine wpAnyH_ready (rs := [6]) (by kernel_rfl) (by simp) ?_
    refine AllReadyH.cons (o := { dst := some 9, op := Op.fieldAddr 25 (Operand.tmp 1) 1, type := 0, pos := "law.go:28", after := #[{ on := 0, ground := Ground.phase }, { on := 1, ground := Ground.phase }, { on := 2, ground := Ground.phase }, { on := 3, ground := Ground.phase }, { on := 4, ground := Ground.phase }, { on := 5, ground := Ground.phase }], guard := none }) rfl (fun K hK => ?_) AllReadyH.nil
    go_simp
    refine hK.out _ _ trivial (fun _ => ?_)
    clear hK K
    try simp only [Act.put, List.setIfInBounds_toArray, List.set_cons_zero, List.set_cons_succ]
    refine wpAnyH_ready (rs := [7]) (by kernel_rfl) (by simp) ?_
    refine AllReadyH.cons (o := { dst := none, op := Op.store 23 (Operand.tmp 9) (Operand.tmp 8), type := 0, pos := "law.go:28", after := #[{ on := 6, ground := Ground.data }, { on := 5, ground := Ground.data }, { on := 5, ground := Ground.chain }, { on := 0, ground := Ground.phase }, { on := 1, ground := Ground.phase }, { on := 2, ground := Ground.phase }, { on := 3, ground := Ground.phase }, { on := 4, ground := Ground.phase }, { on := 5, ground := Ground.phase }], guard := none }) rfl (fun K hK => ?_) AllReadyH.nil
    go_simp
    refine hK.out _ _ trivial (fun _ => ?_)
    clear hK K
    try simp only [Act.put, List.setIfInBounds_toArray, List.set_cons_zero, List.set_cons_succ]
    refine wpAnyH_done (by kernel_rfl) ?_ _
    have j1 := set_row (o := 1) (v := .slice (some ⟨g5, 0, none⟩) (4 + 1) cp) HT4.out
    have hgt : g ≠ w1.heap.size := fun h => by subst h; have := HG4.out; rw [HT4.out] at this; simp only [Option.some.injEq, Obj.cells.injEq] at this; exact absurd this.2.1 (by decide)
    refine abs_post (fun Z => Z.heap[w1.heap.size]? = some (.cells #[.slice ba bn bc, .slice (some ⟨g5, 0, none⟩) (4 + 1) cp] 25 (0, 0)) ∧ Z.heap[w.heap.size]? = some (.cells #[.slice none 0 0, .slice none 0 0] 25 (0, 0)) ∧ MadeR pC.rules w.heap.size (.slice (some ⟨g5, 0, none⟩) (4 + 1) cp) Z ∧
        Z.heap[g]? = some (.cells (bCells pA.bounds).toArray 47 (0, 0)) ∧ Below w.heap.size w Z)
      ⟨j1, (Below.heap_setCell _ _ _ _ (show w.heap.size ≠ w1.heap.size by omega)).trans HR4.out, HMR.out.setCell HT4.out (by decide) (by decide), (Below.heap_setCell _ _ _ _ hgt).trans HG4.out, HB4.out.setCell (by show w.heap.size ≤ w1.heap.size; omega) _⟩ ?_
    clear tl tf j1 hgt
    clear HMR HG4 HT4 HR4 HB4 Y3 K3 C3
    rintro Z ⟨kt, kr, hmr, kg, hb⟩
    have t0 : Z.cell? ⟨w1.heap.size, 0, none⟩ = some (.slice ba bn bc) := by rw [cell_of_row _ _ _ _ _ _ kt]; rfl
    have t1 : Z.cell? ⟨w1.heap.size, 1, none⟩ = some (.slice (some ⟨g5, 0, none⟩) (4 + 1) cp) := by rw [cell_of_row _ _ _ _ _ _ kt]; rfl
    have e0 : Z.cell? ⟨w.heap.size, 0, none⟩ = some (.slice none 0 0) := by rw [cell_of_row _ _ _ _ _ _ kr]; rfl
    have e1 : Z.cell? ⟨w.heap.size, 1, none⟩ = some (.slice none 0 0) := by rw [cell_of_row _ _ _ _ _ _ kr]; rfl
    have f0 : Z.frozen? ⟨w.heap.size, 0, none⟩ = false := by simp [World.frozen?, kr]
    have f1 : Z.frozen? ⟨w.heap.size, 1, none⟩ = false := by simp [World.frozen?, kr]
    have hgr : g ≠ w.heap.size := fun h => by subst h; rw [kg] at kr; simp only [Option.some.injEq, Obj.cells.injEq] at kr; exact absurd kr.2.1 (by decide)
    have KR := Lib.hid kr; have HMR := Lib.hid hmr; have KG := Lib.hid kg; have HB := Lib.hid hb
    clear kt kr hmr kg hb
    go_wp2_with fail
    have q2 := set_row (o := 0) (v := .slice ba bn bc) KR.out
    have q3 := set_row (o := 1) (v := .slice (some ⟨g5, 0, none⟩) (4 + 1) cp) q2
    have m3 := (HMR.out.setCell (o := 0) (x := .slice ba bn bc) KR.out (by decide) (by decide)).setCell (o := 1) (x := .slice (some ⟨g5, 0, none⟩) (4 + 1) cp) q2 (by decide) (by decide)
    have k3 := (Below.heap_setCell _ ⟨w.heap.size, 1, none⟩ (.slice (some ⟨g5, 0, none⟩) (4 + 1) cp) _ hgr).trans ((Below.heap_setCell _ ⟨w.heap.size, 0, none⟩ (.slice ba bn bc) _ hgr).trans KG.out)
    have hinf : (Tryz.prog.info? 25).map (·.size) = some [Value.slice ba bn bc, .slice (some ⟨g5, 0, none⟩) (4 + 1) cp].length := by kernel_rfl
    exact bodyPost_ret (results_cell1 (p := 0) (ty := 25) rfl rfl (run_loadVar_mid _ _ 0 _ [Value.slice ba bn bc, .slice (some ⟨g5, 0, none⟩) (4 + 1) cp] _ (row_rangeL q3) Tryz.underlying25 rfl hinf)) rfl ⟨_, _, rfl, ⟨⟨g, hg1, HG2.out, k3⟩, m3⟩, (HB.out.setCell (Nat.le_refl _) _).setCell (Nat.le_refl _) _⟩
  · go_simp
    refine hK.out _ _ trivial (fun _ => ?_)
    clear hK K
    try simp only [Act.put, List.setIfInBounds_toArray, List.set_cons_zero, List.set_cons_succ]
    refine abs_anyH (fun Z => CAt w.heap.size w1.heap.size w.heap.size (.slice ba bn bc) (.slice ra rn rc) w Z ∧ Z.heap[V0.drew.heap.size]? = some (.cells (intsV [2, 1]).toArray 3 (0, 0))) ⟨C0.out.below (Below.new1 _ _), heap_new0 V0.drew _⟩ ?_
    rintro V1 ⟨hc1, hy1⟩
    have C1 := Lib.hid hc1; have Y1 := Lib.hid hy1
    clear hc1 hy1
    refine wpAnyH_ready (rs := [1, 3]) (by kernel_rfl) (by simp) ?_
    refine AllReadyH.cons (o := { dst := some 4, op := Op.load 23 (Operand.tmp 3), type := 23, pos := "law.go:28", after := #[{ on := 0, ground := Ground.data }], guard := none }) rfl (fun K hK => ?_) (AllReadyH.cons (o := { dst := some 6, op := Op.call { callee := Callee.value (Operand.func 49), args := #[Operand.const (Value.int IntKind.i64 1), Operand.const (Value.int IntKind.i64 0), Operand.const (Value.int IntKind.i64 0), Operand.tmp 5], argTypes := #[60, 3, 3, 40] }, type := 62, pos := "law.go:28", after := #[{ on := 2, ground := Ground.data }], guard := none }) rfl (fun K hK => ?_) AllReadyH.nil)
    · have tl : V1.cell? ⟨w1.heap.size, 1, none⟩ = some (.slice ra rn rc) := by rw [cell_of_row _ _ _ _ _ _ C1.out.t]; rfl
      go_simp
      refine hK.out _ _ trivial (fun _ => ?_)
      clear hK K
      try simp only [Act.put, List.setIfInBounds_toArray, List.set_cons_zero, List.set_cons_succ]
      clear tl
      refine wpAnyH_ready (rs := [3]) (by kernel_rfl) (by simp) ?_
      refine AllReadyH.cons (o := { dst := some 6, op := Op.call { callee := Callee.value (Operand.func 49), args := #[Operand.const (Value.int IntKind.i64 1), Operand.const (Value.int IntKind.i64 0), Operand.const (Value.int IntKind.i64 0), Operand.tmp 5], argTypes := #[60, 3, 3, 40] }, type := 62, pos := "law.go:28", after := #[{ on := 2, ground := Ground.data }], guard := none }) rfl (fun K hK => ?_) AllReadyH.nil
      go_simp
      refine (mk_rule _ _ _ _ _ _ _).mono ?_
      rintro e V2 ⟨rfl, hbb⟩
      have C2 := Lib.hid (C1.out.below hbb); have Y2 := Lib.hid (heap_later Y1.out hbb (Array.getElem?_eq_some_iff.1 Y1.out).1)
      clear hbb
      go_wp2_with fail
      refine hK.out _ _ trivial (fun _ => ?_)
      clear hK K
      try simp only [Act.put, List.setIfInBounds_toArray, List.set_cons_zero, List.set_cons_succ]
      refine wpAnyH_ready (rs := [4]) (by kernel_rfl) (by simp) ?_
      refine AllReadyH.cons (o := { dst := some 7, op := Op.buildSlice 23 1 #[(0, Operand.tmp 6)], type := 23, pos := "law.go:28", after := #[{ on := 3, ground := Ground.data }], guard := none }) rfl (fun K hK => ?_) AllReadyH.nil
      go_simp
      refine hK.out _ _ trivial (fun _ => ?_)
      clear hK K
      try simp only [Act.put, List.setIfInBounds_toArray, List.set_cons_zero, List.set_cons_succ]
      refine abs_anyH (fun Z => CAt w.heap.size w1.heap.size w.heap.size (.slice ba bn bc) (.slice ra rn rc) w Z ∧ Z.heap[V0.drew.heap.size]? = some (.cells (intsV [2, 1]).toArray 3 (0, 0)) ∧ Z.heap[V2.heap.size]? = some (.cells #[.int .i64 1, .slice (some ⟨V0.drew.heap.size, 0, none⟩) 2 2, .int .i64 0, .int .i64 0] 62 (0, 0)))
        ⟨C2.out.below (Below.new1 _ _), heap_old Y2.out, heap_new0 V2 _⟩ ?_
      rintro V3 ⟨hc1, hy1, hk1⟩
      have C3 := Lib.hid hc1; have Y3 := Lib.hid hy1; have K3 := Lib.hid hk1
      clear hc1 hy1 hk1
      refine wpAnyH_ready (rs := [5]) (by kernel_rfl) (by simp) ?_
      refine AllReadyH.cons (o := { dst := some 8, op := Op.call { callee := Callee.builtin Builtin.append, args := #[Operand.tmp 4, Operand.tmp 7], argTypes := #[23, 23] }, type := 23, pos := "law.go:28", after := #[{ on := 1, ground := Ground.data }, { on := 4, ground := Ground.data }, { on := 3, ground := Ground.chain }], guard := none }) rfl (fun K hK => ?_) AllReadyH.nil
      rw [if_pos (by rfl)]
      obtain ⟨i0, hin, hz0, hz1, hz2⟩ := info_parts Tryz.info63
      obtain ⟨cs, hcs, hcr⟩ := C3.out.made.rls
      have hx3 := C3.out.low.size
      refine wp_append_own V3 _ _ 23 rfl w.heap.size 62 i0 _ 4 48 Tryz.underlying23 hin hz0 hz1 hz2 rfl (by decide) _ 4 cs rfl hcs ⟨V2.heap.size, 0, none⟩ 1 1 [.int .i64 1, .slice (some ⟨V0.drew.heap.size, 0, none⟩) 2 2, .int .i64 0, .int .i64 0] rfl rfl ?_ ?_ (by decide) (by decide) hx3 ?_
      · intro q u hq
        rw [Addr.add_lit, Nat.zero_add, cell_of_row _ _ _ _ _ _ K3.out, List.getElem?_toArray]; exact hq
      · intro u hu
        simp only [List.mem_cons, List.not_mem_nil, or_false] at hu
        rcases hu with rfl | rfl | rfl | rfl <;> rfl
      intro v' V4 hown4 hgrow4 _
      have hmr : MadeR pC.rules w.heap.size v' V4 := MadeR.appended (rs := pA.rules) (f := ⟨1, [2, 1], 0, 0⟩) hcs hgrow4 hcr Y3.out hown4
      have hkb : ∀ (k : Nat) (c : Array Value) (t : TypeId), V3.heap[k]? = some (.cells c t (0, 0)) → t ≠ 62 → V4.heap[k]? = some (.cells c t (0, 0)) := fun k c t hk ht =>
        (hgrow4.block k (Array.getElem?_eq_some_iff.1 hk).1 (fun hh => own_apart hcs hk ht _ hh.symm rfl)).trans hk
      obtain ⟨g, hg1, hg2, hg3⟩ := C3.out.made.bnds
      have hg4 := hkb _ _ _ hg3 (by decide)
      have ht4 := hkb _ _ _ C3.out.t (by decide)
      have hr4 := hkb _ _ _ C3.out.r (by decide)
      have hb4 : Below w.heap.size w V4 := C3.out.low.grown hgrow4 hx3 (fun q hq => (hcs.lt q hq).1)
      obtain ⟨g5, cp, rfl⟩ := Slice.own_succ hown4
      refine hK.out _ _ trivial (fun _ => ?_)
      clear hK K
      try simp only [Act.put, List.setIfInBounds_toArray, List.set_cons_zero, List.set_cons_succ]
      have tl : V4.cell? ⟨w1.heap.size, 1, none⟩ = some (.slice ra rn rc) := by rw [cell_of_row _ _ _ _ _ _ ht4]; rfl
      have tf : V4.frozen? ⟨w1.heap.size, 1, none⟩ = false := by simp [World.frozen?, ht4]
      have HMR := Lib.hid hmr; have HG4 := Lib.hid hg4; have HT4 := Lib.hid ht4; have HR4 := Lib.hid hr4; have HB4 := Lib.hid hb4; have HG2 := Lib.hid hg2
      clear hmr hkb hg3 hg4 ht4 hr4 hb4 hown4 hgrow4 hcr hcs hg2
      refine wpAnyH_ready (rs := [6]) (by kernel_rfl) (by simp) ?_
      refine AllReadyH.cons (o := { dst := some 9, op := Op.fieldAddr 25 (Operand.tmp 1) 1, type := 0, pos := "law.go:28", after := #[{ on := 0, ground := Ground.phase }, { on := 1, ground := Ground.phase }, { on := 2, ground := Ground.phase }, { on := 3, ground := Ground.phase }, { on := 4, ground := Ground.phase }, { on := 5, ground := Ground.phase }], guard := none }) rfl (fun K hK => ?_) AllReadyH.nil
      go_simp
      refine hK.out _ _ trivial (fun _ => ?_)
      clear hK K
      try simp only [Act.put, List.setIfInBounds_toArray, List.set_cons_zero, List.set_cons_succ]
      refine wpAnyH_ready (rs := [7]) (by kernel_rfl) (by simp) ?_
      refine AllReadyH.cons (o := { dst := none, op := Op.store 23 (Operand.tmp 9) (Operand.tmp 8), type := 0, pos := "law.go:28", after := #[{ on := 6, ground := Ground.data }, { on := 5, ground := Ground.data }, { on := 5, ground := Ground.chain }, { on := 0, ground := Ground.phase }, { on := 1, ground := Ground.phase }, { on := 2, ground := Ground.phase }, { on := 3, ground := Ground.phase }, { on := 4, ground := Ground.phase }, { on := 5, ground := Ground.phase }], guard := none }) rfl (fun K hK => ?_) AllReadyH.nil
      go_simp
      refine hK.out _ _ trivial (fun _ => ?_)
      clear hK K
      try simp only [Act.put, List.setIfInBounds_toArray, List.set_cons_zero, List.set_cons_succ]
      refine wpAnyH_done (by kernel_rfl) ?_ _
      have j1 := set_row (o := 1) (v := .slice (some ⟨g5, 0, none⟩) (4 + 1) cp) HT4.out
      have hgt : g ≠ w1.heap.size := fun h => by subst h; have := HG4.out; rw [HT4.out] at this; simp only [Option.some.injEq, Obj.cells.injEq] at this; exact absurd this.2.1 (by decide)
      refine abs_post (fun Z => Z.heap[w1.heap.size]? = some (.cells #[.slice ba bn bc, .slice (some ⟨g5, 0, none⟩) (4 + 1) cp] 25 (0, 0)) ∧ Z.heap[w.heap.size]? = some (.cells #[.slice none 0 0, .slice none 0 0] 25 (0, 0)) ∧ MadeR pC.rules w.heap.size (.slice (some ⟨g5, 0, none⟩) (4 + 1) cp) Z ∧
          Z.heap[g]? = some (.cells (bCells pA.bounds).toArray 47 (0, 0)) ∧ Below w.heap.size w Z)
        ⟨j1, (Below.heap_setCell _ _ _ _ (show w.heap.size ≠ w1.heap.size by omega)).trans HR4.out, HMR.out.setCell HT4.out (by decide) (by decide), (Below.heap_setCell _ _ _ _ hgt).trans HG4.out, HB4.out.setCell (by show w.heap.size ≤ w1.heap.size; omega) _⟩ ?_
      clear tl tf j1 hgt
      clear HMR HG4 HT4 HR4 HB4 Y3 K3 C3
      rintro Z ⟨kt, kr, hmr, kg, hb⟩
      have t0 : Z.cell? ⟨w1.heap.size, 0, none⟩ = some (.slice ba bn bc) := by rw [cell_of_row _ _ _ _ _ _ kt]; rfl
      have t1 : Z.cell? ⟨w1.heap.size, 1, none⟩ = some (.slice (some ⟨g5, 0, none⟩) (4 + 1) cp) := by rw [cell_of_row _ _ _ _ _ _ kt]; rfl
      have e0 : Z.cell? ⟨w.heap.size, 0, none⟩ = some (.slice none 0 0) := by rw [cell_of_row _ _ _ _ _ _ kr]; rfl
      have e1 : Z.cell? ⟨w.heap.size, 1, none⟩ = some (.slice none 0 0) := by rw [cell_of_row _ _ _ _ _ _ kr]; rfl
      have f0 : Z.frozen? ⟨w.heap.size, 0, none⟩ = false := by simp [World.frozen?, kr]
      have f1 : Z.frozen? ⟨w.heap.size, 1, none⟩ = false := by simp [World.frozen?, kr]
      have hgr : g ≠ w.heap.size := fun h => by subst h; rw [kg] at kr; simp only [Option.some.injEq, Obj.cells.injEq] at kr; exact absurd kr.2.1 (by decide)
      have KR := Lib.hid kr; have HMR := Lib.hid hmr; have KG := Lib.hid kg; have HB := Lib.hid hb
      clear kt kr hmr kg hb
      go_wp2_with fail
      have q2 := set_row (o := 0) (v := .slice ba bn bc) KR.out
      have q3 := set_row (o := 1) (v := .slice (some ⟨g5, 0, none⟩) (4 + 1) cp) q2
      have m3 := (HMR.out.setCell (o := 0) (x := .slice ba bn bc) KR.out (by decide) (by decide)).setCell (o := 1) (x := .slice (some ⟨g5, 0, none⟩) (4 + 1) cp) q2 (by decide) (by decide)
      have k3 := (Below.heap_setCell _ ⟨w.heap.size, 1, none⟩ (.slice (some ⟨g5, 0, none⟩) (4 + 1) cp) _ hgr).trans ((Below.heap_setCell _ ⟨w.heap.size, 0, none⟩ (.slice ba bn bc) _ hgr).trans KG.out)
      have hinf : (Tryz.prog.info? 25).map (·.size) = some [Value.slice ba bn bc, .slice (some ⟨g5, 0, none⟩) (4 + 1) cp].length := by kernel_rfl
      exact bodyPost_ret (results_cell1 (p := 0) (ty := 25) rfl rfl (run_loadVar_mid _ _ 0 _ [Value.slice ba bn bc, .slice (some ⟨g5, 0, none⟩) (4 + 1) cp] _ (row_rangeL q3) Tryz.underlying25 rfl hinf)) rfl ⟨_, _, rfl, ⟨⟨g, hg1, HG2.out, k3⟩, m3⟩, (HB.out.setCell (Nat.le_refl _) _).setCell (Nat.le_refl _) _⟩
    · go_simp
      refine (mk_rule _ _ _ _ _ _ _).mono ?_
      rintro e V2 ⟨rfl, hbb⟩
      have C2 := Lib.hid (C1.out.below hbb); have Y2 := Lib.hid (heap_later Y1.out hbb (Array.getElem?_eq_some_iff.1 Y1.out).1)
      clear hbb
      go_wp2_with fail
      refine hK.out _ _ trivial (fun _ => ?_)
      clear hK K
      try simp only [Act.put, List.setIfInBounds_toArray, List.set_cons_zero, List.set_cons_succ]
      refine wpAnyH_ready (rs := [1, 4]) (by kernel_rfl) (by simp) ?_
      refine AllReadyH.cons (o := { dst := some 4, op := Op.load 23 (Operand.tmp 3), type := 23, pos := "law.go:28", after := #[{ on := 0, ground := Ground.data }], guard := none }) rfl (fun K hK => ?_) (AllReadyH.cons (o := { dst := some 7, op := Op.buildSlice 23 1 #[(0, Operand.tmp 6)], type := 23, pos := "law.go:28", after := #[{ on := 3, ground := Ground.data }], guard := none }) rfl (fun K hK => ?_) AllReadyH.nil)
      · have tl : V2.cell? ⟨w1.heap.size, 1, none⟩ = some (.slice ra rn rc) := by rw [cell_of_row _ _ _ _ _ _ C2.out.t]; rfl
        go_simp
        refine hK.out _ _ trivial (fun _ => ?_)
        clear hK K
        try simp only [Act.put, List.setIfInBounds_toArray, List.set_cons_zero, List.set_cons_succ]
        clear tl
        refine wpAnyH_ready (rs := [4]) (by kernel_rfl) (by simp) ?_
        refine AllReadyH.cons (o := { dst := some 7, op := Op.buildSlice 23 1 #[(0, Operand.tmp 6)], type := 23, pos := "law.go:28", after := #[{ on := 3, ground := Ground.data }], guard := none }) rfl (fun K hK => ?_) AllReadyH.nil
        go_simp
        refine hK.out _ _ trivial (fun _ => ?_)
        clear hK K
        try simp only [Act.put, List.setIfInBounds_toArray, List.set_cons_zero, List.set_cons_succ]
        refine abs_anyH (fun Z => CAt w.heap.size w1.heap.size w.heap.size (.slice ba bn bc) (.slice ra rn rc) w Z ∧ Z.heap[V0.drew.heap.size]? = some (.cells (intsV [2, 1]).toArray 3 (0, 0)) ∧ Z.heap[V2.heap.size]? = some (.cells #[.int .i64 1, .slice (some ⟨V0.drew.heap.size, 0, none⟩) 2 2, .int .i64 0, .int .i64 0] 62 (0, 0)))
          ⟨C2.out.below (Below.new1 _ _), heap_old Y2.out, heap_new0 V2 _⟩ ?_
        rintro V3 ⟨hc1, hy1, hk1⟩
        have C3 := Lib.hid hc1; have Y3 := Lib.hid hy1; have K3 := Lib.hid hk1
        clear hc1 hy1 hk1
        refine wpAnyH_ready (rs := [5]) (by kernel_rfl) (by simp) ?_
        refine AllReadyH.cons (o := { dst := some 8, op := Op.call { callee := Callee.builtin Builtin.append, args := #[Operand.tmp 4, Operand.tmp 7], argTypes := #[23, 23] }, type := 23, pos := "law.go:28", after := #[{ on := 1, ground := Ground.data }, { on := 4, ground := Ground.data }, { on := 3, ground := Ground.chain }], guard := none }) rfl (fun K hK => ?_) AllReadyH.nil
        rw [if_pos (by rfl)]
        obtain ⟨i0, hin, hz0, hz1, hz2⟩ := info_parts Tryz.info63
        obtain ⟨cs, hcs, hcr⟩ := C3.out.made.rls
        have hx3 := C3.out.low.size
        refine wp_append_own V3 _ _ 23 rfl w.heap.size 62 i0 _ 4 48 Tryz.underlying23 hin hz0 hz1 hz2 rfl (by decide) _ 4 cs rfl hcs ⟨V2.heap.size, 0, none⟩ 1 1 [.int .i64 1, .slice (some ⟨V0.drew.heap.size, 0, none⟩) 2 2, .int .i64 0, .int .i64 0] rfl rfl ?_ ?_ (by decide) (by decide) hx3 ?_
        · intro q u hq
          rw [Addr.add_lit, Nat.zero_add, cell_of_row _ _ _ _ _ _ K3.out, List.getElem?_toArray]; exact hq
        · intro u hu
          simp only [List.mem_cons, List.not_mem_nil, or_false] at hu
          rcases hu with rfl | rfl | rfl | rfl <;> rfl
        intro v' V4 hown4 hgrow4 _
        have hmr : MadeR pC.rules w.heap.size v' V4 := MadeR.appended (rs := pA.rules) (f := ⟨1, [2, 1], 0, 0⟩) hcs hgrow4 hcr Y3.out hown4
        have hkb : ∀ (k : Nat) (c : Array Value) (t : TypeId), V3.heap[k]? = some (.cells c t (0, 0)) → t ≠ 62 → V4.heap[k]? = some (.cells c t (0, 0)) := fun k c t hk ht =>
          (hgrow4.block k (Array.getElem?_eq_some_iff.1 hk).1 (fun hh => own_apart hcs hk ht _ hh.symm rfl)).trans hk
        obtain ⟨g, hg1, hg2, hg3⟩ := C3.out.made.bnds
        have hg4 := hkb _ _ _ hg3 (by decide)
        have ht4 := hkb _ _ _ C3.out.t (by decide)
        have hr4 := hkb _ _ _ C3.out.r (by decide)
        have hb4 : Below w.heap.size w V4 := C3.out.low.grown hgrow4 hx3 (fun q hq => (hcs.lt q hq).1)
        obtain ⟨g5, cp, rfl⟩ := Slice.own_succ hown4
        refine hK.out _ _ trivial (fun _ => ?_)
        clear hK K
        try simp only [Act.put, List.setIfInBounds_toArray, List.set_cons_zero, List.set_cons_succ]
        have tl : V4.cell? ⟨w1.heap.size, 1, none⟩ = some (.slice ra rn rc) := by rw [cell_of_row _ _ _ _ _ _ ht4]; rfl
        have tf : V4.frozen? ⟨w1.heap.size, 1, none⟩ = false := by simp [World.frozen?, ht4]
        have HMR := Lib.hid hmr; have HG4 := Lib.hid hg4; have HT4 := Lib.hid ht4; have HR4 := Lib.hid hr4; have HB4 := Lib.hid hb4; have HG2 := Lib.hid hg2
        clear hmr hkb hg3 hg4 ht4 hr4 hb4 hown4 hgrow4 hcr hcs hg2
        refine wpAnyH_ready (rs := [6]) (by kernel_rfl) (by simp) ?_
        refine AllReadyH.cons (o := { dst := some 9, op := Op.fieldAddr 25 (Operand.tmp 1) 1, type := 0, pos := "law.go:28", after := #[{ on := 0, ground := Ground.phase }, { on := 1, ground := Ground.phase }, { on := 2, ground := Ground.phase }, { on := 3, ground := Ground.phase }, { on := 4, ground := Ground.phase }, { on := 5, ground := Ground.phase }], guard := none }) rfl (fun K hK => ?_) AllReadyH.nil
        go_simp
        refine hK.out _ _ trivial (fun _ => ?_)
        clear hK K
        try simp only [Act.put, List.setIfInBounds_toArray, List.set_cons_zero, List.set_cons_succ]
        refine wpAnyH_ready (rs := [7]) (by kernel_rfl) (by simp) ?_
        refine AllReadyH.cons (o := { dst := none, op := Op.store 23 (Operand.tmp 9) (Operand.tmp 8), type := 0, pos := "law.go:28", after := #[{ on := 6, ground := Ground.data }, { on := 5, ground := Ground.data }, { on := 5, ground := Ground.chain }, { on := 0, ground := Ground.phase }, { on := 1, ground := Ground.phase }, { on := 2, ground := Ground.phase }, { on := 3, ground := Ground.phase }, { on := 4, ground := Ground.phase }, { on := 5, ground := Ground.phase }], guard := none }) rfl (fun K hK => ?_) AllReadyH.nil
        go_simp
        refine hK.out _ _ trivial (fun _ => ?_)
        clear hK K
        try simp only [Act.put, List.setIfInBounds_toArray, List.set_cons_zero, List.set_cons_succ]
        refine wpAnyH_done (by kernel_rfl) ?_ _
        have j1 := set_row (o := 1) (v := .slice (some ⟨g5, 0, none⟩) (4 + 1) cp) HT4.out
        have hgt : g ≠ w1.heap.size := fun h => by subst h; have := HG4.out; rw [HT4.out] at this; simp only [Option.some.injEq, Obj.cells.injEq] at this; exact absurd this.2.1 (by decide)
        refine abs_post (fun Z => Z.heap[w1.heap.size]? = some (.cells #[.slice ba bn bc, .slice (some ⟨g5, 0, none⟩) (4 + 1) cp] 25 (0, 0)) ∧ Z.heap[w.heap.size]? = some (.cells #[.slice none 0 0, .slice none 0 0] 25 (0, 0)) ∧ MadeR pC.rules w.heap.size (.slice (some ⟨g5, 0, none⟩) (4 + 1) cp) Z ∧
            Z.heap[g]? = some (.cells (bCells pA.bounds).toArray 47 (0, 0)) ∧ Below w.heap.size w Z)
          ⟨j1, (Below.heap_setCell _ _ _ _ (show w.heap.size ≠ w1.heap.size by omega)).trans HR4.out, HMR.out.setCell HT4.out (by decide) (by decide), (Below.heap_setCell _ _ _ _ hgt).trans HG4.out, HB4.out.setCell (by show w.heap.size ≤ w1.heap.size; omega) _⟩ ?_
        clear tl tf j1 hgt
        clear HMR HG4 HT4 HR4 HB4 Y3 K3 C3
        rintro Z ⟨kt, kr, hmr, kg, hb⟩
        have t0 : Z.cell? ⟨w1.heap.size, 0, none⟩ = some (.slice ba bn bc) := by rw [cell_of_row _ _ _ _ _ _ kt]; rfl
        have t1 : Z.cell? ⟨w1.heap.size, 1, none⟩ = some (.slice (some ⟨g5, 0, none⟩) (4 + 1) cp) := by rw [cell_of_row _ _ _ _ _ _ kt]; rfl
        have e0 : Z.cell? ⟨w.heap.size, 0, none⟩ = some (.slice none 0 0) := by rw [cell_of_row _ _ _ _ _ _ kr]; rfl
        have e1 : Z.cell? ⟨w.heap.size, 1, none⟩ = some (.slice none 0 0) := by rw [cell_of_row _ _ _ _ _ _ kr]; rfl
        have f0 : Z.frozen? ⟨w.heap.size, 0, none⟩ = false := by simp [World.frozen?, kr]
        have f1 : Z.frozen? ⟨w.heap.size, 1, none⟩ = false := by simp [World.frozen?, kr]
        have hgr : g ≠ w.heap.size := fun h => by subst h; rw [kg] at kr; simp only [Option.some.injEq, Obj.cells.injEq] at kr; exact absurd kr.2.1 (by decide)
        have KR := Lib.hid kr; have HMR := Lib.hid hmr; have KG := Lib.hid kg; have HB := Lib.hid hb
        clear kt kr hmr kg hb
        go_wp2_with fail
        have q2 := set_row (o := 0) (v := .slice ba bn bc) KR.out
        have q3 := set_row (o := 1) (v := .slice (some ⟨g5, 0, none⟩) (4 + 1) cp) q2
        have m3 := (HMR.out.setCell (o := 0) (x := .slice ba bn bc) KR.out (by decide) (by decide)).setCell (o := 1) (x := .slice (some ⟨g5, 0, none⟩) (4 + 1) cp) q2 (by decide) (by decide)
        have k3 := (Below.heap_setCell _ ⟨w.heap.size, 1, none⟩ (.slice (some ⟨g5, 0, none⟩) (4 + 1) cp) _ hgr).trans ((Below.heap_setCell _ ⟨w.heap.size, 0, none⟩ (.slice ba bn bc) _ hgr).trans KG.out)
        have hinf : (Tryz.prog.info? 25).map (·.size) = some [Value.slice ba bn bc, .slice (some ⟨g5, 0, none⟩) (4 + 1) cp].length := by kernel_rfl
        exact bodyPost_ret (results_cell1 (p := 0) (ty := 25) rfl rfl (run_loadVar_mid _ _ 0 _ [Value.slice ba bn bc, .slice (some ⟨g5, 0, none⟩) (4 + 1) cp] _ (row_rangeL q3) Tryz.underlying25 rfl hinf)) rfl ⟨_, _, rfl, ⟨⟨g, hg1, HG2.out, k3⟩, m3⟩, (HB.out.setCell (Nat.le_refl _) _).setCell (Nat.le_refl _) _⟩
      · go_simp
        refine hK.out _ _ trivial (fun _ => ?_)
        clear hK K
        try simp only [Act.put, List.setIfInBounds_toArray, List.set_cons_zero, List.set_cons_succ]
        refine abs_anyH (fun Z => CAt w.heap.size w1.heap.size w.heap.size (.slice ba bn bc) (.slice ra rn rc) w Z ∧ Z.heap[V0.drew.heap.size]? = some (.cells (intsV [2, 1]).toArray 3 (0, 0)) ∧ Z.heap[V2.heap.size]? = some (.cells #[.int .i64 1, .slice (some ⟨V0.drew.heap.size, 0, none⟩) 2 2, .int .i64 0, .int .i64 0] 62 (0, 0)))
          ⟨C2.out.below (Below.new1 _ _), heap_old Y2.out, heap_new0 V2 _⟩ ?_
        rintro V3 ⟨hc1, hy1, hk1⟩
        have C3 := Lib.hid hc1; have Y3 := Lib.hid hy1; have K3 := Lib.hid hk1
        clear hc1 hy1 hk1
        refine wpAnyH_ready (rs := [1]) (by kernel_rfl) (by simp) ?_
        refine AllReadyH.cons (o := { dst := some 4, op := Op.load 23 (Operand.tmp 3), type := 23, pos := "law.go:28", after := #[{ on := 0, ground := Ground.data }], guard := none }) rfl (fun K hK => ?_) AllReadyH.nil
        have tl : V3.cell? ⟨w1.heap.size, 1, none⟩ = some (.slice ra rn rc) := by rw [cell_of_row _ _ _ _ _ _ C3.out.t]; rfl
        go_simp
        refine hK.out _ _ trivial (fun _ => ?_)
        clear hK K
        try simp only [Act.put, List.setIfInBounds_toArray, List.set_cons_zero, List.set_cons_succ]
        clear tl
        refine wpAnyH_ready (rs := [5]) (by kernel_rfl) (by simp) ?_
        refine AllReadyH.cons (o := { dst := some 8, op := Op.call { callee := Callee.builtin Builtin.append, args := #[Operand.tmp 4, Operand.tmp 7], argTypes := #[23, 23] }, type := 23, pos := "law.go:28", after := #[{ on := 1, ground := Ground.data }, { on := 4, ground := Ground.data }, { on := 3, ground := Ground.chain }], guard := none }) rfl (fun K hK => ?_) AllReadyH.nil
        rw [if_pos (by rfl)]
        obtain ⟨i0, hin, hz0, hz1, hz2⟩ := info_parts Tryz.info63
        obtain ⟨cs, hcs, hcr⟩ := C3.out.made.rls
        have hx3 := C3.out.low.size
        refine wp_append_own V3 _ _ 23 rfl w.heap.size 62 i0 _ 4 48 Tryz.underlying23 hin hz0 hz1 hz2 rfl (by decide) _ 4 cs rfl hcs ⟨V2.heap.size, 0, none⟩ 1 1 [.int .i64 1, .slice (some ⟨V0.drew.heap.size, 0, none⟩) 2 2, .int .i64 0, .int .i64 0] rfl rfl ?_ ?_ (by decide) (by decide) hx3 ?_
        · intro q u hq
          rw [Addr.add_lit, Nat.zero_add, cell_of_row _ _ _ _ _ _ K3.out, List.getElem?_toArray]; exact hq
        · intro u hu
          simp only [List.mem_cons, List.not_mem_nil, or_false] at hu
          rcases hu with rfl | rfl | rfl | rfl <;> rfl
        intro v' V4 hown4 hgrow4 _
        have hmr : MadeR pC.rules w.heap.size v' V4 := MadeR.appended (rs := pA.rules) (f := ⟨1, [2, 1], 0, 0⟩) hcs hgrow4 hcr Y3.out hown4
        have hkb : ∀ (k : Nat) (c : Array Value) (t : TypeId), V3.heap[k]? = some (.cells c t (0, 0)) → t ≠ 62 → V4.heap[k]? = some (.cells c t (0, 0)) := fun k c t hk ht =>
          (hgrow4.block k (Array.getElem?_eq_some_iff.1 hk).1 (fun hh => own_apart hcs hk ht _ hh.symm rfl)).trans hk
        obtain ⟨g, hg1, hg2, hg3⟩ := C3.out.made.bnds
        have hg4 := hkb _ _ _ hg3 (by decide)
        have ht4 := hkb _ _ _ C3.out.t (by decide)
        have hr4 := hkb _ _ _ C3.out.r (by decide)
        have hb4 : Below w.heap.size w V4 := C3.out.low.grown hgrow4 hx3 (fun q hq => (hcs.lt q hq).1)
        obtain ⟨g5, cp, rfl⟩ := Slice.own_succ hown4
        refine hK.out _ _ trivial (fun _ => ?_)
        clear hK K
        try simp only [Act.put, List.setIfInBounds_toArray, List.set_cons_zero, List.set_cons_succ]
        have tl : V4.cell? ⟨w1.heap.size, 1, none⟩ = some (.slice ra rn rc) := by rw [cell_of_row _ _ _ _ _ _ ht4]; rfl
        have tf : V4.frozen? ⟨w1.heap.size, 1, none⟩ = false := by simp [World.frozen?, ht4]
        have HMR := Lib.hid hmr; have HG4 := Lib.hid hg4; have HT4 := Lib.hid ht4; have HR4 := Lib.hid hr4; have HB4 := Lib.hid hb4; have HG2 := Lib.hid hg2
        clear hmr hkb hg3 hg4 ht4 hr4 hb4 hown4 hgrow4 hcr hcs hg2
        refine wpAnyH_ready (rs := [6]) (by kernel_rfl) (by simp) ?_
        refine AllReadyH.cons (o := { dst := some 9, op := Op.fieldAddr 25 (Operand.tmp 1) 1, type := 0, pos := "law.go:28", after := #[{ on := 0, ground := Ground.phase }, { on := 1, ground := Ground.phase }, { on := 2, ground := Ground.phase }, { on := 3, ground := Ground.phase }, { on := 4, ground := Ground.phase }, { on := 5, ground := Ground.phase }], guard := none }) rfl (fun K hK => ?_) AllReadyH.nil
        go_simp
        refine hK.out _ _ trivial (fun _ => ?_)
        clear hK K
        try simp only [Act.put, List.setIfInBounds_toArray, List.set_cons_zero, List.set_cons_succ]
        refine wpAnyH_ready (rs := [7]) (by kernel_rfl) (by simp) ?_
        refine AllReadyH.cons (o := { dst := none, op := Op.store 23 (Operand.tmp 9) (Operand.tmp 8), type := 0, pos := "law.go:28", after := #[{ on := 6, ground := Ground.data }, { on := 5, ground := Ground.data }, { on := 5, ground := Ground.chain }, { on := 0, ground := Ground.phase }, { on := 1, ground := Ground.phase }, { on := 2, ground := Ground.phase }, { on := 3, ground := Ground.phase }, { on := 4, ground := Ground.phase }, { on := 5, ground := Ground.phase }], guard := none }) rfl (fun K hK => ?_) AllReadyH.nil
        go_simp
        refine hK.out _ _ trivial (fun _ => ?_)
        clear hK K
        try simp only [Act.put, List.setIfInBounds_toArray, List.set_cons_zero, List.set_cons_succ]
        refine wpAnyH_done (by kernel_rfl) ?_ _
        have j1 := set_row (o := 1) (v := .slice (some ⟨g5, 0, none⟩) (4 + 1) cp) HT4.out
        have hgt : g ≠ w1.heap.size := fun h => by subst h; have := HG4.out; rw [HT4.out] at this; simp only [Option.some.injEq, Obj.cells.injEq] at this; exact absurd this.2.1 (by decide)
        refine abs_post (fun Z => Z.heap[w1.heap.size]? = some (.cells #[.slice ba bn bc, .slice (some ⟨g5, 0, none⟩) (4 + 1) cp] 25 (0, 0)) ∧ Z.heap[w.heap.size]? = some (.cells #[.slice none 0 0, .slice none 0 0] 25 (0, 0)) ∧ MadeR pC.rules w.heap.size (.slice (some ⟨g5, 0, none⟩) (4 + 1) cp) Z ∧
            Z.heap[g]? = some (.cells (bCells pA.bounds).toArray 47 (0, 0)) ∧ Below w.heap.size w Z)
          ⟨j1, (Below.heap_setCell _ _ _ _ (show w.heap.size ≠ w1.heap.size by omega)).trans HR4.out, HMR.out.setCell HT4.out (by decide) (by decide), (Below.heap_setCell _ _ _ _ hgt).trans HG4.out, HB4.out.setCell (by show w.heap.size ≤ w1.heap.size; omega) _⟩ ?_
        clear tl tf j1 hgt
        clear HMR HG4 HT4 HR4 HB4 Y3 K3 C3
        rintro Z ⟨kt, kr, hmr, kg, hb⟩
        have t0 : Z.cell? ⟨w1.heap.size, 0, none⟩ = some (.slice ba bn bc) := by rw [cell_of_row _ _ _ _ _ _ kt]; rfl
        have t1 : Z.cell? ⟨w1.heap.size, 1, none⟩ = some (.slice (some ⟨g5, 0, none⟩) (4 + 1) cp) := by rw [cell_of_row _ _ _ _ _ _ kt]; rfl
        have e0 : Z.cell? ⟨w.heap.size, 0, none⟩ = some (.slice none 0 0) := by rw [cell_of_row _ _ _ _ _ _ kr]; rfl
        have e1 : Z.cell? ⟨w.heap.size, 1, none⟩ = some (.slice none 0 0) := by rw [cell_of_row _ _ _ _ _ _ kr]; rfl
        have f0 : Z.frozen? ⟨w.heap.size, 0, none⟩ = false := by simp [World.frozen?, kr]
        have f1 : Z.frozen? ⟨w.heap.size, 1, none⟩ = false := by simp [World.frozen?, kr]
        have hgr : g ≠ w.heap.size := fun h => by subst h; rw [kg] at kr; simp only [Option.some.injEq, Obj.cells.injEq] at kr; exact absurd kr.2.1 (by decide)
        have KR := Lib.hid kr; have HMR := Lib.hid hmr; have KG := Lib.hid kg; have HB := Lib.hid hb
        clear kt kr hmr kg hb
        go_wp2_with fail
        have q2 := set_row (o := 0) (v := .slice ba bn bc) KR.out
        have q3 := set_row (o := 1) (v := .slice (some ⟨g5, 0, none⟩) (4 + 1) cp) q2
        have m3 := (HMR.out.setCell (o := 0) (x := .slice ba bn bc) KR.out (by decide) (by decide)).setCell (o := 1) (x := .slice (some ⟨g5, 0, none⟩) (4 + 1) cp) q2 (by decide) (by decide)
        have k3 := (Below.heap_setCell _ ⟨w.heap.size, 1, none⟩ (.slice (some ⟨g5, 0, none⟩) (4 + 1) cp) _ hgr).trans ((Below.heap_setCell _ ⟨w.heap.size, 0, none⟩ (.slice ba bn bc) _ hgr).trans KG.out)
        have hinf : (Tryz.prog.info? 25).map (·.size) = some [Value.slice ba bn bc, .slice (some ⟨g5, 0, none⟩) (4 + 1) cp].length := by kernel_rfl
        exact bodyPost_ret (results_cell1 (p := 0) (ty := 25) rfl rfl (run_loadVar_mid _ _ 0 _ [Value.slice ba bn bc, .slice (some ⟨g5, 0, none⟩) (4 + 1) cp] _ (row_rangeL q3) Tryz.underlying25 rfl hinf)) rfl ⟨_, _, rfl, ⟨⟨g, hg1, HG2.out, k3⟩, m3⟩, (HB.out.setCell (Nat.le_refl _) _).setCell (Nat.le_refl _) _⟩
end Go.Proofs.YtilbbnjfaoldoaaGreatDoor
