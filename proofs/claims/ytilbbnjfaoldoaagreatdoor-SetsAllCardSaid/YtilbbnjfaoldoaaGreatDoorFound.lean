/- The law's own search, sorted. -/
import Derived.Test.YtilbbnjfaoldoaaGreatDoorWaysB
import Derived.Test.YtilbbnjfaoldoaaGreatDoorShelfZ
namespace Go.Proofs.YtilbbnjfaoldoaaGreatDoor
open Go Go.RowKit
attribute [local go_sem] cell_grow u64_sAnd u64_sOr u64_sDiff sDiff_all zeqI zneI sAnd_bit_zero sAnd_bit_zeroN sAnd_bit_nonzero rowOf_grow rowOk_grow rowOf_alloc rowOk_alloc

/-- slices.SortFunc(l, slices.Compare) at rows of sets. -/
theorem sortFunc_any (ss : List (List Nat)) (w : World) (base base2 : Nat) (v : Value) (h : SOwn w base v ss) (hb2 : ∀ k, v.ownBlock = some k → base2 ≤ k) (hn : ss.Nodup) (h200 : ss.length ≤ 200) (hrow : ∀ i, i < ss.length → (sget ss i).length ≤ 1000) :
    Calls Tryz.prog 10 #[v, .func (.func 11) #[] #[]] w fun e w' => e = .returned (.tuple #[]) ∧ SOwn w' base v (sortL ss) ∧ KeptT 35 (fun _ => False) base2 w w' :=
  sort_rows Tryz.sortL 11 (enters_of Tryz.func11 (by kernel_rfl) rfl) (fun W a b x y ha hb => compare_any a b x y W ha hb) ss w base base2 v h hb2 hn h200 hrow
theorem foldW_list (g : List Nat → Bool) (m : Nat) (xs : List (List Nat)) (h0 : 0 < m) : (foldW g m xs []).2 = (xs.filter g).take m := by
  rw [foldW_take g m xs [] h0, List.nil_append]
theorem found_list {p : Prob} (m : Nat) (h0 : 0 < m) : (foldW (heldAll p) m (waysE p.bounds) []).2.Nodup ∧ (foldW (heldAll p) m (waysE p.bounds) []).2.length ≤ m := by
  rw [foldW_list _ _ _ h0]
  exact ⟨List.Nodup.sublist (List.take_sublist _ _) (solsW_nodup p), by rw [List.length_take]; omega⟩
theorem found_rows {p : Prob} (hp : probOk p = true) (m : Nat) (h0 : 0 < m) {l : List Nat} (h : l ∈ (foldW (heldAll p) m (waysE p.bounds) []).2) : l.length = p.bounds.length := by
  rw [foldW_list _ _ _ h0] at h
  exact ((solsW_mem hp l).1 ((List.take_sublist _ _).subset h)).len
theorem sget_mem {ss : List (List Nat)} {i : Nat} (h : i < ss.length) : sget ss i ∈ ss := by
  unfold sget; rw [List.getElem?_eq_getElem h]; exact List.getElem_mem h
set_option maxRecDepth 100000 in
set_option maxHeartbeats 4000000 in
theorem found_any (p : Prob) (hpo : probOk p = true) (m : Nat) (h0 : 0 < m) (hm : m ≤ 100) (bv rv : Value) (w : World) {B : Nat} (hbv : Bnds w B bv p.bounds) (hrv : Rls w B rv p.rules) (hB : B ≤ w.heap.size) :
    Calls Tryz.prog 7 #[.agg #[bv, rv], .int .i64 m] w fun e w' => ∃ v, e = .returned v ∧ SOwn w' w.heap.size v (foundR p m) ∧ Below w.heap.size w w' := by
  obtain ⟨ba, bc, rfl⟩ := hbv.slice
  obtain ⟨ra, rc, rfl⟩ := hrv.slice
  have HBV := Lib.hid hbv; have HRV := Lib.hid hrv; have HPO := Lib.hid hpo
  clear hbv hrv hpo
  unfold foundR
  obtain ⟨q, hq⟩ : ∃ q, q = foldW (heldAll p) m (waysE p.bounds) [] := ⟨_, rfl⟩
  rw [← hq]
  have HQ := Lib.hid hq
  clear hq
  go_enter Tryz.func7, Tryz.ntmps7
  go_upto_region 2 with fail
  refine abs_wp (fun W => W.heap[w.heap.size]? = some (.cells #[.slice ba p.bounds.length bc, .slice ra p.rules.length rc] 25 (0, 0)) ∧ W.heap[w.heap.size + 1]? = some (.cells #[.int .i64 m] 3 (0, 0)) ∧ W.heap[w.heap.size + 1 + 1]? = some (.cells #[.slice none 0 0] 29 (0, 0)) ∧ Below w.heap.size w W)
    ⟨(heap_new3 _ _ _ _).1, (heap_new3 _ _ _ _).2.1, (heap_new3 _ _ _ _).2.2, ((Below.new1 w _).alloc (by simp) _).alloc (by simp; omega) _⟩ ?_
  rintro W ⟨k0, k1, k2, hb⟩
  have z2 : w.heap.size + 1 + 1 < W.heap.size := (Array.getElem?_eq_some_iff.1 k2).1
  have hway : WayAt p m (.slice ba p.bounds.length bc) (.slice ra p.rules.length rc) w.heap.size (w.heap.size + 1) B w.heap.size W := ⟨HBV.out.below hb hB, HRV.out.below hb hB, k0, k1, hb.size⟩
  have hw := ways_any p HPO.out m hm (.slice ba p.bounds.length bc) (.slice ra p.rules.length rc) w.heap.size (w.heap.size + 1 + 1) (w.heap.size + 1) B w.heap.size (by omega) hB p.bounds [] (.slice none 0 0) [] W (by simp) (Nat.zero_le _) (fun s hs => by cases hs) (by simpa using h0) hway (World.ownsRow_nil _ _ _ _) ⟨_, k2, SOwn.nil _ _⟩
  have hwp : waysP [] p.bounds = waysE p.bounds := by unfold waysP; simp
  rw [hwp] at hw
  have hfl := found_list (p := p) m h0
  have hfr := fun l h => found_rows (l := l) HPO.out m h0 h
  rw [← HQ.out] at hw hfl hfr
  have c0 : W.cell? ⟨w.heap.size, 0, none⟩ = some (.slice ba p.bounds.length bc) := by rw [cell_of_row _ _ _ _ _ _ k0]; rfl
  have hn8 := (probOk_fit HPO.out).2.1
  have HW := Lib.hid hw; have HFL := Lib.hid hfl; have HFR := Lib.hid hfr; have HB := Lib.hid hb
  clear k0 k1 k2 hway hw hwp hfl hfr hb
  go_wp2_with fail
  refine HW.out.mono ?_
  rintro e w1 ⟨rfl, ⟨ov, hko, hso⟩, hk⟩
  obtain ⟨oa, oc, rfl⟩ := sown_slice hso
  have o0 : w1.cell? ⟨w.heap.size + 1 + 1, 0, none⟩ = some (.slice oa q.2.length oc) := by rw [cell_of_row _ _ _ _ _ _ hko]; rfl
  have HKO := Lib.hid hko; have HSO := Lib.hid hso
  have HB1 := Lib.hid (HB.out.trans (hk.toBelow (Nat.le_refl _) HB.out.size (fun q hq h => by unfold One at h; omega)))
  clear hko hso hk c0 HW HB
  go_wp2_with fail
  refine (sortFunc_any q.2 w1 w.heap.size w.heap.size _ HSO.out (by obtain ⟨cs, hc, _⟩ := HSO.out; exact fun k hk => (hc.lt k hk).1) HFL.out.1 (by have := HFL.out.2; omega) (fun i hi => by rw [HFR.out _ (sget_mem hi)]; omega)).mono ?_
  rintro e w2 ⟨rfl, hso2, hk2⟩
  have hko2 := hk2.same _ _ HKO.out (fun h => h) (.inr (nT (by decide)))
  have o1 : w2.cell? ⟨w.heap.size + 1 + 1, 0, none⟩ = some (.slice oa q.2.length oc) := by rw [cell_of_row _ _ _ _ _ _ hko2]; rfl
  have HSO2 := Lib.hid hso2; have HB2 := Lib.hid (HB1.out.trans (hk2.toBelow (Nat.le_refl _) HB1.out.size (fun q hq h => h)))
  clear hso2 hk2 hko2 HKO HSO HB1 o0
  go_wp2
  go_ret
  exact ⟨_, rfl, HSO2.out, HB2.out⟩
end Go.Proofs.YtilbbnjfaoldoaaGreatDoor
