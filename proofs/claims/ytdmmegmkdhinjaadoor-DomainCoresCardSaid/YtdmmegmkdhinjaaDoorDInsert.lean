/- slices.Insert of one rule into a row of the call's own. -/
import Derived.Test.YtdmmegmkdhinjaaDoorBF
import Derived.Lib.Overlaps
import Derived.Lib.AppendZerosOnto
import Derived.Shelf.RegionOpenPlain
import Derived.Lib.SliceRun
import Derived.Laws.Externs
import Derived.Shelf.Spec.SlicesInsert
namespace Go.Proofs.YtdmmegmkdhinjaaDoor
open Go Go.RowKit
attribute [local go_sem] Oper.semAt_some

theorem infoR : (Tryd.prog.info? 35).map (fun i => (i.zero, i.size, i.bytes)) = some (some (.agg #[.int .i64 0, .slice none 0 0, .slice none 0 0, .int .i64 0]), 4, 64) := by kernel_rfl
theorem sizeR (w : World) : (sizeOf 35).run Tryd.prog w = .ok 4 w := by
  obtain ⟨i0, hi0, hz0, hs0, _⟩ := info_parts infoR
  simp [sizeOf, typeInfo, hi0, hs0]
theorem szR : (Tryd.prog.info? 35).map (·.size) = some 4 := by
  obtain ⟨i0, hi0, hz0, hs0, _⟩ := info_parts infoR
  rw [hi0]; simp [hs0]
/-- The slices do not overlap: they lie in two blocks. -/
theorem overlaps_no (w : World) (vb g off lb cb : Nat) (cv cg : Array Value) (hne : vb ≠ g) (hv : w.heap[vb]? = some (.cells cv 35 (0, 0))) (hg : w.heap[g]? = some (.cells cg 35 (0, 0))) (hgs : cg.size ≠ 0) :
    (callFunc 71 #[.slice (some ⟨vb, 0, none⟩) 1 1, .slice (some ⟨g, off, none⟩) lb cb]).run Tryd.prog w = .ok (.value (.bool false)) w := by
  rw [run_callFunc_extern Tryd.func71 (by kernel_rfl) (by kernel_rfl) (by kernel_rfl) (e := Extern.SlicesOverlaps.overlaps #[23, 23] #[4]) (by kernel_rfl),
    Lib.run_overlaps_apart w 23 4 35 Tryd.underlying23 4 sizeR ⟨vb, 0, none⟩ ⟨g, off, none⟩ 1 1 lb cb hne 35 35 cv.size cg.size (by simp [World.shape?, hv]) (by simp [World.shape?, hg]) hgs (by simp [World.frozen?, hv]) (by simp [World.frozen?, hv])]
  rfl
/-- The copy of whole rules into a row. -/
theorem copyR (W : World) (g off dLen dCap sb so sLen sCap ty : Nat) (cur : Array Value) (cs : List Value) (hg : W.heap[g]? = some (.cells cur 35 (0, 0))) (hn : cs.length = Nat.min sLen dLen * 4)
    (hsrc : ∀ j v, cs[j]? = some v → W.cell? ⟨sb, so + j, none⟩ = some v) (hfit : off + cs.length ≤ cur.size) (h1 : ∀ v ∈ cs, v.oneCell' = true) :
    (Builtin.copy_ #[23, 23] ty #[.slice (some ⟨g, off, none⟩) dLen dCap, .slice (some ⟨sb, so, none⟩) sLen sCap]).run Tryd.prog W =
      .ok (goInt (Nat.min sLen dLen)) (W.setRow g (cur.toList.take off ++ cs ++ cur.toList.drop (off + cs.length)).toArray) :=
  run_copy_sz W _ _ ty 35 4 g off dLen dCap ⟨sb, so, none⟩ sLen sCap cur _ cs Tryd.underlying23 szR hg hn (fun j v hj => by rw [Addr.add_lit]; exact hsrc j v hj) hfit h1
set_option maxRecDepth 100000 in
set_option maxHeartbeats 1000000 in
/-- There is room, and the place is not the end: in place. -/
theorem insert_shift (g n cap i vb base : Nat) (cs rc : List Value) (w : World) (hown : w.ownsRow base 35 4 (.slice (some ⟨g, 0, none⟩) n cap) n cs) (hi : i < n) (hroom : n + 1 ≤ cap) (hn : n ≤ 1000) (hvb : vb ≠ g)
    (hv : w.heap[vb]? = some (.cells rc.toArray 35 (0, 0))) (hrl : rc.length = 4) (h1 : ∀ v ∈ rc, v.oneCell' = true) (h1c : ∀ v ∈ cs, v.oneCell' = true) :
    Calls Tryd.prog 42 #[.slice (some ⟨g, 0, none⟩) n cap, .int .i64 i, .slice (some ⟨vb, 0, none⟩) 1 1] w fun e w' => e = .returned (.slice (some ⟨g, 0, none⟩) (n + 1) cap) ∧
      w'.ownsRow base 35 4 (.slice (some ⟨g, 0, none⟩) (n + 1) cap) (n + 1) (cs.take (i * 4) ++ rc ++ cs.drop (i * 4)) ∧ Below base w w' := by
  obtain ⟨hcl, hcm, cur, hbg, hg, hcs, htk⟩ : cs.length = n * 4 ∧ cap ≤ maxLen ∧ ∃ cur : Array Value, base ≤ g ∧ w.heap[g]? = some (.cells cur 35 (0, 0)) ∧ cur.size = cap * 4 ∧ cur.toList.take (n * 4) = cs := by
    rcases hown.2 with ⟨h, _⟩ | ⟨g', cap', cur, h, hbg, hg, h1, h2, h3, h4⟩
    · simp at h
    · simp only [Value.slice.injEq, Option.some.injEq, Addr.mk.injEq, and_true, true_and] at h
      obtain ⟨rfl, rfl⟩ := h
      exact ⟨hown.1, h2, cur, hbg, hg, h3, h4⟩
  have hov : ∀ off lb cb, (callFunc 71 #[.slice (some ⟨vb, 0, none⟩) 1 1, .slice (some ⟨g, off, none⟩) lb cb]).run Tryd.prog w = .ok (.value (.bool false)) w := fun off lb cb => overlaps_no w vb g off lb cb _ _ hvb hv hg (by omega)
  have hi0 : ¬ ((i : Int) = (n : Int)) := by omega
  have hgc : ∀ j u, cs[j]? = some u → w.cell? ⟨g, j, none⟩ = some u := fun j u hj => by
    rw [cell_of_row _ _ _ _ _ _ hg, ← Array.getElem?_toList]
    rw [← htk, List.getElem?_take] at hj
    split at hj
    · exact hj
    · cases hj
  have hvw : vb < w.heap.size := (Array.getElem?_eq_some_iff.1 hv).1
  have HOV := Lib.hid hov; have HG := Lib.hid hg; have HCS := Lib.hid hcs; have HTK := Lib.hid htk; have HGC := Lib.hid hgc; have HV := Lib.hid hv; have HCL := Lib.hid hcl
  have hcap : cap ≤ 9223372036854775807 := by unfold maxLen at hcm; omega
  have hw1 : IntKind.i64.wrap ((i : Int) + 1) = (i : Int) + 1 := by rw [IntKind.wrap_i64]; omega
  have hdl : (cs.drop (i * 4)).length = (n - i) * 4 := by rw [List.length_drop, hcl]; omega
  have hmin : Nat.min (n + 1 - i) (n - i) = n - i := by simp only [Nat.min_def]; split <;> omega
  obtain ⟨c1, hc1⟩ : ∃ c1, c1 = (cur.toList.take ((i + 1) * 4) ++ cs.drop (i * 4) ++ cur.toList.drop ((i + 1) * 4 + (cs.drop (i * 4)).length)).toArray := ⟨_, rfl⟩
  have hcp1 : ∀ ty dc sc, (Builtin.copy_ #[23, 23] ty #[.slice (some ⟨g, (i + 1) * 4, none⟩) (n - i) dc, .slice (some ⟨g, i * 4, none⟩) (n + 1 - i) sc]).run Tryd.prog w.drew =
      .ok (goInt ((n - i : Nat) : Int)) (w.drew.setRow g c1) := fun ty dc sc => by
    have := copyR w.drew g ((i + 1) * 4) (n - i) dc g (i * 4) (n + 1 - i) sc ty cur (cs.drop (i * 4)) hg (by rw [hdl, hmin]) (fun j u hj => hgc _ u (by rwa [List.getElem?_drop] at hj)) (by rw [hdl, hcs]; omega) (fun u hu => h1c u (List.mem_of_mem_drop hu))
    rwa [hmin, ← hc1] at this
  have hcl1 : cur.toList.length = cap * 4 := by rw [Array.length_toList]; exact hcs
  have hs1 : c1.size = cap * 4 := by
    rw [hc1]
    simp only [List.size_toArray, List.length_append, List.length_take, List.length_drop]
    omega
  have ht1 : c1.toList.take (i * 4) = cs.take (i * 4) := by
    rw [hc1, List.toList_toArray, List.append_assoc, List.take_append_of_le_length (by rw [List.length_take]; omega), List.take_take, ← htk, List.take_take]
    congr 1; omega
  have hd1 : c1.toList.drop (i * 4 + 4) = cs.drop (i * 4) ++ cur.toList.drop ((i + 1) * 4 + (cs.drop (i * 4)).length) := by
    rw [hc1, List.toList_toArray, List.append_assoc, List.drop_append_of_le_length (by rw [List.length_take]; omega), List.drop_eq_nil_of_le (by rw [List.length_take]; omega), List.nil_append]
  obtain ⟨c2, hc2⟩ : ∃ c2, c2 = (c1.toList.take (i * 4) ++ rc ++ c1.toList.drop (i * 4 + rc.length)).toArray := ⟨_, rfl⟩
  have hg1 : (w.drew.setRow g c1).heap[g]? = some (.cells c1 35 (0, 0)) := setRow_heap w.drew g cur c1 _ _ hg
  have hv1 : (w.drew.setRow g c1).heap[vb]? = some (.cells rc.toArray 35 (0, 0)) := (setRow_other w.drew g vb c1 hvb).trans hv
  have hcp2 : ∀ ty dc, (Builtin.copy_ #[23, 23] ty #[.slice (some ⟨g, i * 4, none⟩) (n + 1 - i) dc, .slice (some ⟨vb, 0, none⟩) 1 1]).run Tryd.prog (w.drew.setRow g c1) =
      .ok (goInt ((1 : Nat) : Int)) ((w.drew.setRow g c1).setRow g c2) := fun ty dc => by
    have hm : Nat.min 1 (n + 1 - i) = 1 := by simp only [Nat.min_def]; split <;> omega
    have := copyR (w.drew.setRow g c1) g (i * 4) (n + 1 - i) dc vb 0 1 1 ty c1 rc hg1 (by rw [hrl, hm]) (fun j u hj => by rw [Nat.zero_add, cell_of_row _ _ _ _ _ _ hv1, List.getElem?_toArray]; exact hj) (by rw [hrl, hs1]; omega) h1
    rwa [hm, ← hc2] at this
  have hg2 : ((w.drew.setRow g c1).setRow g c2).heap[g]? = some (.cells c2 35 (0, 0)) := setRow_heap (w.drew.setRow g c1) g c1 c2 _ _ hg1
  have hown2 : ((w.drew.setRow g c1).setRow g c2).ownsRow base 35 4 (.slice (some ⟨g, 0, none⟩) (n + 1) cap) (n + 1) (cs.take (i * 4) ++ rc ++ cs.drop (i * 4)) := by
    have e2 : c2.toList = cs.take (i * 4) ++ rc ++ cs.drop (i * 4) ++ cur.toList.drop ((i + 1) * 4 + (cs.drop (i * 4)).length) := by rw [hc2, List.toList_toArray, hrl, ht1, hd1]; simp only [List.append_assoc]
    have l2 : (cs.take (i * 4) ++ rc ++ cs.drop (i * 4)).length = (n + 1) * 4 := by
      simp only [List.length_append, List.length_take, hdl, hrl]; omega
    refine ⟨l2, .inr ⟨g, cap, c2, rfl, hbg, hg2, hroom, hcm, ?_, ?_⟩⟩
    · rw [← Array.length_toList, e2, List.length_append, l2, List.length_drop]; omega
    · rw [e2, List.take_append_of_le_length (by omega), List.take_of_length_le (by omega)]
  have hb2 : Below base w ((w.drew.setRow g c1).setRow g c2) := below_setRow (below_setRow (Below.drewn (Below.refl _ _)) hbg _) hbg _
  have HCP1 := Lib.hid hcp1; have HCP2 := Lib.hid hcp2; have HOWN2 := Lib.hid hown2; have HB2 := Lib.hid hb2
  clear hcl1 hs1 ht1 hd1 hg1 hv1 hcp2 hg2 hown2 hb2 hc1 hc2
  have mixed : Tryd.prog.follows .mixedOrders = true := by kernel_rfl
  have hb1 : (0 : Int) ≤ (i : Int) + 1 := by omega
  have hin : i ≤ n := by omega
  have htn : ((i : Int) + 1).toNat = i + 1 := by omega
  have hb2 : ¬ (cap = i + 1) := by omega
  have hb3 : (i : Int) ≤ (n : Int) + 1 := by omega
  have hb4 : ¬ (cap = i) := by omega
  clear hov hg hcs htk hgc hv hown hcl hcp1 hdl hmin
  go_enter Tryd.func42, Tryd.ntmps42
  go_wp2_with (simp only [HOV.out])
  go_region_law_o (refine step_copy_runI rfl _ _ 23 23 rfl (.slice (some ⟨g, (i + 1) * 4, none⟩) (n - i) (cap - (i + 1))) (.slice (some ⟨g, i * 4, none⟩) (n + 1 - i) (cap - i)) (by simp [Act.eval, Act.put]) (by simp [Act.eval, Act.put]) (HCP1.out 3 (cap - (i + 1)) (cap - i)) ?_)
  have hq := HCP2.out 3 (cap - i)
  go_wp2
  go_ret
  exact ⟨rfl, HOWN2.out, HB2.out⟩
set_option maxRecDepth 100000 in
set_option maxHeartbeats 1000000 in
/-- At the end: an append. -/
theorem insert_end (v : Value) (n vb base : Nat) (cs rc : List Value) (w : World) (hown : w.ownsRow base 35 4 v n cs) (hbs : base ≤ w.heap.size) (hn : n ≤ 1000)
    (hv : w.heap[vb]? = some (.cells rc.toArray 35 (0, 0))) (hrl : rc.length = 4) (h1 : ∀ v ∈ rc, v.oneCell' = true) :
    Calls Tryd.prog 42 #[v, .int .i64 n, .slice (some ⟨vb, 0, none⟩) 1 1] w fun e w' => ∃ v', e = .returned v' ∧
      w'.ownsRow base 35 4 v' (n + 1) (cs ++ rc) ∧ Below base w w' := by
  obtain ⟨va, vc, rfl⟩ := own_form hown
  have hvc : n ≤ vc ∧ vc ≤ maxLen := by
    rcases hown.2 with ⟨h, h0⟩ | ⟨g', cap', cur, h, hbg, hg, h1, h2, h3, h4⟩
    · simp at h; unfold maxLen; omega
    · simp only [Value.slice.injEq, true_and] at h
      omega
  have hvn : va = none → n = 0 ∧ vc = 0 := fun h0 => by
    rcases hown.2 with ⟨h, _⟩ | ⟨g', cap', cur, h, _⟩
    · simp at h; omega
    · subst h0; simp at h
  obtain ⟨i0, hin, hz0, hz1, hz2⟩ := info_parts infoR
  have HOW := Lib.hid hown; have HV := Lib.hid hv; have HVN := Lib.hid hvn
  have hmx : vc ≤ 9223372036854775807 := by have := hvc.2; unfold maxLen at this; omega
  have hvn0 := hvc.1
  clear hown hv hvn hvc
  go_enter Tryd.func42, Tryd.ntmps42
  go_wp2_with (at_builtin; refine wpList_append_own _ rfl _ _ 23 rfl base 35 i0 _ 4 64 Tryd.underlying23 hin hz0 hz1 hz2 rfl (by decide) _ _ _ rfl HOW.out ⟨vb, 0, none⟩ 1 1 rc rfl (by rw [hrl]) ?c1 h1 ?c3 ?c4 hbs ?_)
  case c1 => intro j u hj; rw [Addr.add_lit, Nat.zero_add, cell_of_row _ _ _ _ _ _ HV.out, List.getElem?_toArray]; exact hj
  case c3 => unfold maxLen; omega
  case c4 => omega
  all_goals
    intro v' w2 hown2 hgrow2 _
    have hb2 := (Below.refl base w).grown hgrow2 hbs (fun q hq => (HOW.out.lt q (by cases va <;> exact hq)).1)
    have HO2 := Lib.hid hown2; have HB2 := Lib.hid hb2
    clear hown2 hgrow2 hb2
    go_wp2
    go_ret
    exact ⟨_, rfl, HO2.out, HB2.out⟩
set_option maxRecDepth 100000 in
set_option maxHeartbeats 1000000 in
/-- There is no room: a new row. -/
theorem insert_grow (g n i vb base : Nat) (cs rc : List Value) (w : World) (hown : w.ownsRow base 35 4 (.slice (some ⟨g, 0, none⟩) n n) n cs) (hbs : base ≤ w.heap.size) (hi : i < n) (hn : n ≤ 1000)
    (hv : w.heap[vb]? = some (.cells rc.toArray 35 (0, 0))) (hrl : rc.length = 4) (h1 : ∀ v ∈ rc, v.oneCell' = true) (h1c : ∀ v ∈ cs, v.oneCell' = true) :
    Calls Tryd.prog 42 #[.slice (some ⟨g, 0, none⟩) n n, .int .i64 i, .slice (some ⟨vb, 0, none⟩) 1 1] w fun e w' => ∃ v', e = .returned v' ∧
      w'.ownsRow base 35 4 v' (n + 1) (cs.take (i * 4) ++ rc ++ cs.drop (i * 4)) ∧ Below base w w' := by
  obtain ⟨hcl, hcm, cur, hbg, hg, hcs, htk⟩ : cs.length = n * 4 ∧ n ≤ maxLen ∧ ∃ cur : Array Value, base ≤ g ∧ w.heap[g]? = some (.cells cur 35 (0, 0)) ∧ cur.size = n * 4 ∧ cur.toList.take (n * 4) = cs := by
    rcases hown.2 with ⟨h, _⟩ | ⟨g', cap', cur, h, hbg, hg, h1, h2, h3, h4⟩
    · simp at h
    · simp only [Value.slice.injEq, Option.some.injEq, Addr.mk.injEq, and_true, true_and] at h
      obtain ⟨rfl, rfl⟩ := h
      exact ⟨hown.1, h2, cur, hbg, hg, h3, h4⟩
  obtain ⟨i0, hi0, hz0, hzs, hzb⟩ := info_parts infoR
  have hgc : ∀ j u, cs[j]? = some u → w.cell? ⟨g, j, none⟩ = some u := fun j u hj => by
    rw [cell_of_row _ _ _ _ _ _ hg, ← Array.getElem?_toList]
    rw [← htk, List.getElem?_take] at hj
    split at hj
    · exact hj
    · cases hj
  have hvw : vb < w.heap.size := (Array.getElem?_eq_some_iff.1 hv).1
  have hgw : g < w.heap.size := (Array.getElem?_eq_some_iff.1 hg).1
  have hold : (Builtin.firstCells i0.size i (.slice (some ⟨g, 0, none⟩) i n)).run Tryd.prog w.drew = .ok (cs.take (i * 4)).toArray w.drew := by
    rw [hzs]
    exact run_firstCells_some w.drew 4 i ⟨g, 0, none⟩ i n (cs.take (i * 4)) (by rw [List.length_take]; omega) (fun j v hj => by
      rw [Addr.add_lit, Nat.zero_add]
      rw [List.getElem?_take] at hj
      split at hj
      · exact hgc j v hj
      · cases hj)
  have hik : i + (n + 1 - i) = n + 1 := by omega
  have hkk : (n : Int) + 1 - (i : Int) = ((n + 1 - i : Nat) : Int) := by omega
  have hrz : ∀ ty, (Builtin.append_ #[23, 3] ty #[.slice (some ⟨g, 0, none⟩) i n, .int .i64 ((n : Int) + 1 - (i : Int))]).run Tryd.prog w =
      .ok (.slice (some ⟨w.heap.size, 0, none⟩) (n + 1) (grownCap w (n + 1) n 35)) (w.drew.alloc (.cells ((cs.take (i * 4)).toArray ++ Builtin.zeroCells (Value.agg #[.int .i64 0, .slice none 0 0, .slice none 0 0, .int .i64 0]).cells (n + 1 - i) ++ Builtin.zeroCells (Value.agg #[.int .i64 0, .slice none 0 0, .slice none 0 0, .int .i64 0]).cells (grownCap w (n + 1) n 35 - (n + 1))) 35)) := fun ty => by
    have h := Lib.run_append_grow_zeros w 23 3 ty 35 i0 _ .i64 .i64 Tryd.underlying23 Tryd.underlying3 hi0 hz0 (some ⟨g, 0, none⟩) i n (cs.take (i * 4)) hold (n + 1 - i) (by omega) (by omega) (by omega) (by omega) (by rw [hzb]; omega) (by rw [hzb, hik]; exact growslice_fits (by omega) (by omega))
    rw [hik] at h
    rw [hkk]
    exact h
  obtain ⟨G, hG⟩ : ∃ G, G = grownCap w (n + 1) n 35 := ⟨_, rfl⟩
  have hGn : n + 1 ≤ G := by rw [hG]; exact grownCap_ge w _ _ _
  have hGm : G ≤ maxLen := by rw [hG]; exact grownCap_le_maxLen w (n + 1) n _ (by unfold maxLen; omega)
  have hG63 : G ≤ 9223372036854775807 := by unfold maxLen at hGm; omega
  obtain ⟨ROW, hROW⟩ : ∃ ROW : Array Value, ROW = (cs.take (i * 4)).toArray ++ Builtin.zeroCells (Value.agg #[.int .i64 0, .slice none 0 0, .slice none 0 0, .int .i64 0]).cells (n + 1 - i) ++ Builtin.zeroCells (Value.agg #[.int .i64 0, .slice none 0 0, .slice none 0 0, .int .i64 0]).cells (G - (n + 1)) := ⟨_, rfl⟩
  rw [← hG] at hrz
  rw [← hROW] at hrz
  have hRl : ROW.size = G * 4 := by
    rw [hROW]
    simp [size_zeroCells, Value.cells]
    omega
  have hRt : ROW.toList.take (i * 4) = cs.take (i * 4) := by
    rw [hROW, Array.append_assoc, Array.toList_append, List.toList_toArray, List.take_append_of_le_length (by rw [List.length_take]; omega), List.take_take, Nat.min_self]
  obtain ⟨h, hh⟩ : ∃ h, h = w.heap.size := ⟨_, rfl⟩
  rw [← hh] at hrz
  have hlr : ROW.toList.length = G * 4 := by rw [Array.length_toList]; exact hRl
  obtain ⟨c1, hc1⟩ : ∃ c1, c1 = (ROW.toList.take (i * 4) ++ rc ++ ROW.toList.drop (i * 4 + rc.length)).toArray := ⟨_, rfl⟩
  have hs1 : c1.size = G * 4 := by
    rw [hc1]
    simp only [List.size_toArray, List.length_append, List.length_take, List.length_drop]
    omega
  have hcpA : ∀ W : World, W.heap[h]? = some (.cells ROW 35 (0, 0)) → W.heap[vb]? = some (.cells rc.toArray 35 (0, 0)) → ∀ ty dc, (Builtin.copy_ #[23, 23] ty #[.slice (some ⟨h, i * 4, none⟩) (n + 1 - i) dc, .slice (some ⟨vb, 0, none⟩) 1 1]).run Tryd.prog W =
      .ok (goInt ((1 : Nat) : Int)) (W.setRow h c1) := fun W hW1 hW2 ty dc => by
    have hm : Nat.min 1 (n + 1 - i) = 1 := by simp only [Nat.min_def]; split <;> omega
    have := copyR W h (i * 4) (n + 1 - i) dc vb 0 1 1 ty ROW rc hW1 (by rw [hrl, hm]) (fun j u hj => by rw [Nat.zero_add, cell_of_row _ _ _ _ _ _ hW2, List.getElem?_toArray]; exact hj) (by rw [hrl, hRl]; omega) h1
    rwa [hm, ← hc1] at this
  have hdl : (cs.drop (i * 4)).length = (n - i) * 4 := by rw [List.length_drop, hcl]; omega
  obtain ⟨c2, hc2⟩ : ∃ c2, c2 = (c1.toList.take ((i + 1) * 4) ++ cs.drop (i * 4) ++ c1.toList.drop ((i + 1) * 4 + (cs.drop (i * 4)).length)).toArray := ⟨_, rfl⟩
  have hcpB : ∀ W : World, W.heap[h]? = some (.cells c1 35 (0, 0)) → W.heap[g]? = some (.cells cur 35 (0, 0)) → ∀ ty dc sc, (Builtin.copy_ #[23, 23] ty #[.slice (some ⟨h, (i + 1) * 4, none⟩) (n - i) dc, .slice (some ⟨g, i * 4, none⟩) (n - i) sc]).run Tryd.prog W =
      .ok (goInt ((n - i : Nat) : Int)) (W.setRow h c2) := fun W hW1 hW2 ty dc sc => by
    have hm : Nat.min (n - i) (n - i) = n - i := by simp only [Nat.min_def]; split <;> omega
    have := copyR W h ((i + 1) * 4) (n - i) dc g (i * 4) (n - i) sc ty c1 (cs.drop (i * 4)) hW1 (by rw [hdl, hm]) (fun j u hj => by
      have := hgc (i * 4 + j) u (by rwa [List.getElem?_drop] at hj)
      rw [cell_of_row _ _ _ _ _ _ hg] at this
      rw [cell_of_row _ _ _ _ _ _ hW2]; exact this) (by rw [hdl, hs1]; omega) (fun u hu => h1c u (List.mem_of_mem_drop hu))
    rwa [hm, ← hc2] at this
  have l2 : (cs.take (i * 4) ++ rc ++ cs.drop (i * 4)).length = (n + 1) * 4 := by
    simp only [List.length_append, List.length_take, hdl, hrl]; omega
  have t1 : c1.toList.take ((i + 1) * 4) = cs.take (i * 4) ++ rc := by
    rw [hc1, List.toList_toArray, hRt, List.take_append_of_le_length (by simp only [List.length_append, List.length_take, hrl]; omega), List.take_of_length_le (by simp only [List.length_append, List.length_take, hrl]; omega)]
  have e2 : c2.toList = cs.take (i * 4) ++ rc ++ cs.drop (i * 4) ++ c1.toList.drop ((i + 1) * 4 + (cs.drop (i * 4)).length) := by rw [hc2, List.toList_toArray, t1]
  have s2 : c2.size = G * 4 := by
    have l1 : c1.toList.length = G * 4 := by rw [Array.length_toList]; exact hs1
    rw [← Array.length_toList, e2, List.length_append, l2, List.length_drop]; omega
  have t2 : c2.toList.take ((n + 1) * 4) = cs.take (i * 4) ++ rc ++ cs.drop (i * 4) := by
    rw [e2, List.take_append_of_le_length (by omega), List.take_of_length_le (by omega)]
  obtain ⟨W1, hW1⟩ : ∃ W1, W1 = w.drew.alloc (.cells ROW 35) := ⟨_, rfl⟩
  rw [← hW1] at hrz
  have hb1 : Below w.heap.size w W1 := by rw [hW1]; exact (Below.drewn (Below.refl _ _)).alloc (Nat.le_refl _) _
  have k1 : W1.heap[h]? = some (.cells ROW 35 (0, 0)) := by rw [hW1, hh]; exact heap_new0 w.drew _
  have kv1 := heap_later hv hb1 hvw
  have kg1 := heap_later hg hb1 hgw
  have hgh : g ≠ h := by omega
  have hvh : vb ≠ h := by omega
  have hqA := hcpA W1 k1 kv1 3 (G - i)
  have k2 : (W1.setRow h c1).heap[h]? = some (.cells c1 35 (0, 0)) := setRow_heap W1 h ROW c1 _ _ k1
  have kg2 : (W1.setRow h c1).heap[g]? = some (.cells cur 35 (0, 0)) := (setRow_other W1 h g c1 hgh).trans kg1
  have HCPB := Lib.hid (hcpB (W1.setRow h c1).drew k2 kg2 3 (G - (i + 1)) (n - i))
  have k3 : ((W1.setRow h c1).drew.setRow h c2).heap[h]? = some (.cells c2 35 (0, 0)) := setRow_heap (W1.setRow h c1).drew h c1 c2 _ _ k2
  have hb3 : Below base w ((W1.setRow h c1).drew.setRow h c2) := below_setRow (Below.drewn (below_setRow (hb1.mono hbs) (by omega) _)) (by omega) _
  have hown3 : ((W1.setRow h c1).drew.setRow h c2).ownsRow base 35 4 (.slice (some ⟨h, 0, none⟩) (n + 1) G) (n + 1) (cs.take (i * 4) ++ rc ++ cs.drop (i * 4)) :=
    ⟨l2, .inr ⟨h, G, c2, rfl, by omega, k3, hGn, hGm, s2, t2⟩⟩
  have HOWN3 := Lib.hid hown3; have HB3 := Lib.hid hb3; have HRZ := Lib.hid hrz
  have mixed : Tryd.prog.follows .mixedOrders = true := by kernel_rfl
  have hi0' : ¬ ((i : Int) = (n : Int)) := by omega
  have hw1 : IntKind.i64.wrap ((i : Int) + 1) = (i : Int) + 1 := by rw [IntKind.wrap_i64]; omega
  have hb1' : (0 : Int) ≤ (i : Int) + 1 := by omega
  have hin : i ≤ n := by omega
  have htn : ((i : Int) + 1).toNat = i + 1 := by omega
  have hb2 : ¬ (G = i + 1) := by omega
  have hb3' : (i : Int) ≤ (n : Int) := by omega
  have hb4 : ¬ (G = i) := by omega
  have hb5 : ¬ (n = i) := by omega
  have hn63 : n ≤ 9223372036854775807 := by omega
  clear hcl hg hcs htk hgc hv hown hold hik hkk hG hROW hRl hRt hh hlr hc1 hs1 hcpA hdl hc2 hcpB l2 t1 e2 s2 t2 hW1 hb1 k1 kv1 kg1 k2 kg2 k3 hb3 hown3 hrz hi0 hz0 hzs hzb hcm hGm h1 h1c
  go_enter Tryd.func42, Tryd.ntmps42
  go_wp2_with (at_builtin; refine Lib.wpList_append_run _ rfl _ _ _ _ rfl _ _ rfl rfl _ _ (HRZ.out _) ?_)
  go_region_law_o (refine step_copy_runI rfl _ _ 23 23 rfl (.slice (some ⟨h, (i + 1) * 4, none⟩) (n - i) (G - (i + 1))) (.slice (some ⟨g, i * 4, none⟩) (n - i) (n - i)) (by simp [Act.eval, Act.put]) (by simp [Act.eval, Act.put]) HCPB.out ?_)
  go_wp2
  go_ret
  exact ⟨_, rfl, HOWN3.out, HB3.out⟩
/-- slices.Insert of one rule, into a row of the call's own. -/
theorem insert_rules (v : Value) (n i vb base : Nat) (cs rc : List Value) (w : World) (hown : w.ownsRow base 35 4 v n cs) (hbs : base ≤ w.heap.size) (hi : i ≤ n) (hn : n ≤ 1000) (hvb : ∀ q, v.ownBlock = some q → q ≠ vb)
    (hv : w.heap[vb]? = some (.cells rc.toArray 35 (0, 0))) (hrl : rc.length = 4) (h1 : ∀ v ∈ rc, v.oneCell' = true) (h1c : ∀ v ∈ cs, v.oneCell' = true) :
    Calls Tryd.prog 42 #[v, .int .i64 i, .slice (some ⟨vb, 0, none⟩) 1 1] w fun e w' => ∃ v', e = .returned v' ∧
      w'.ownsRow base 35 4 v' (n + 1) (cs.take (i * 4) ++ rc ++ cs.drop (i * 4)) ∧ Below base w w' := by
  by_cases he : i = n
  · subst he
    have hl := hown.1
    refine (insert_end v i vb base cs rc w hown hbs hn hv hrl h1).mono ?_
    rintro e w' ⟨v', rfl, ho, hb⟩
    rw [List.take_of_length_le (by omega), List.drop_eq_nil_of_le (by omega), List.append_nil]
    exact ⟨v', rfl, ho, hb⟩
  · obtain ⟨g, cap, rfl, hcap⟩ : ∃ g cap, v = .slice (some ⟨g, 0, none⟩) n cap ∧ n ≤ cap := by
      rcases hown.2 with ⟨_, h⟩ | ⟨g', cap', cur, h, _, _, h1, _⟩
      · omega
      · exact ⟨g', cap', h, h1⟩
    by_cases hr : n + 1 ≤ cap
    · refine (insert_shift g n cap i vb base cs rc w hown (by omega) hr hn (fun h => hvb g rfl h.symm) hv hrl h1 h1c).mono ?_
      rintro e w' ⟨rfl, ho, hb⟩
      exact ⟨_, rfl, ho, hb⟩
    · obtain rfl : cap = n := by omega
      exact insert_grow g cap i vb base cs rc w hown hbs (by omega) hn hv hrl h1 h1c
end Go.Proofs.YtdmmegmkdhinjaaDoor
