/- slices.Grow, slices.Concat of two, at facts. -/
import Derived.Test.YtilbbnjfaoldoaaDoorFacts
namespace Go.Proofs.YtilbbnjfaoldoaaDoor
open Go Go.RowKit
attribute [local go_sem] cell_grow Oper.semAt_some

set_option maxRecDepth 100000 in
set_option maxHeartbeats 1000000 in
theorem grow_facts (n : Nat) (w : World) (h0 : 0 < n) (hn : n ≤ 1000000) :
    Calls Tryd.prog 85 #[.slice none 0 0, .int .i64 n] w fun e w' => ∃ v', e = .returned v' ∧ w'.ownsRow w.heap.size 56 5 v' 0 [] ∧ Below w.heap.size w w' := by
  obtain ⟨i0, hi, hz0, hz1, hz2⟩ := info_parts Tryd.info56
  have happ := Lib.run_append_nil_zeros (P := Tryd.prog) w 35 3 35 56 i0 _ .i64 .i64 Tryd.underlying35 Tryd.underlying3 hi hz0 n h0 (by omega) (by omega) (by rw [hz2]; omega)
  generalize hcap : grownCap w n 0 56 = cap2 at happ
  have hcapge : n ≤ cap2 := by rw [← hcap]; exact grownCap_ge w _ 0 56
  have hcaple : cap2 ≤ maxLen := by rw [← hcap]; exact grownCap_le_maxLen w _ 0 56 (by unfold maxLen; omega)
  generalize hZ : (Builtin.zeroCells (Value.agg #[.int .i64 0, .int .i64 0, .bool false, .int .i64 0, .slice none 0 0]).cells n ++ Builtin.zeroCells (Value.agg #[.int .i64 0, .int .i64 0, .bool false, .int .i64 0, .slice none 0 0]).cells (cap2 - n)) = Z at happ
  have hZs : Z.size = cap2 * 5 := by rw [← hZ]; simp [size_zeroCells, Value.cells]; omega
  have hown : ((w.drew.alloc (.cells Z 56))).ownsRow w.heap.size 56 5 (.slice (some ⟨w.heap.size, 0, none⟩) 0 cap2) 0 [] := World.ownsRow_made w.drew Z cap2 (Nat.le_refl _) hcaple hZs
  have hbl : Below w.heap.size w (w.drew.alloc (.cells Z 56)) := (Below.drewn (Below.refl _ _)).alloc (Nat.le_refl _) _
  have HOW := Lib.hid hown; have HB := Lib.hid hbl
  have hci : (0 : Int) ≤ (n : Int) := by omega
  have hcj : (0 : Int) < (n : Int) := by omega
  clear hcap hZ hZs hown hbl
  go_enter Tryd.func85, Tryd.ntmps85
  go_wp2_with (at_builtin; refine Lib.wpList_append_run _ rfl _ _ _ _ rfl _ _ rfl rfl _ _ happ ?_)
  go_ret
  exact ⟨_, rfl, HOW.out, HB.out⟩
def sumL (a b k : Nat) : Nat := if k = 0 then 0 else if k = 1 then a else a + b
def catL {α : Type} (a b : List α) (k : Nat) : List α := if k = 0 then [] else if k = 1 then a else a ++ b
set_option maxRecDepth 100000 in
set_option maxHeartbeats 2000000 in
theorem concat_facts (fs gs : List Fact) (v1 v2 : Value) (sb : Nat) (t : TypeId) (w : World) {B : Nat} (h1 : Fcts w B v1 fs) (h2 : Fcts w B v2 gs) (hs : w.heap[sb]? = some (.cells #[v1, v2] t (0, 0))) (hB : B ≤ w.heap.size) (h0 : 0 < fs.length) (hn1 : fs.length ≤ 1000) (hn2 : gs.length ≤ 1000) :
    Calls Tryd.prog 54 #[.slice (some ⟨sb, 0, none⟩) 2 2] w fun e w' => ∃ v', e = .returned v' ∧ Fcts w' w'.heap.size v' (fs ++ gs) ∧ Below w.heap.size w w' := by
  obtain ⟨c1, hr1, hf1, hc1⟩ := h1.list
  obtain ⟨c2, hr2, hf2, hc2⟩ := h2.list
  obtain ⟨a1, x1, rfl⟩ := h1.slice
  obtain ⟨a2, x2, rfl⟩ := h2.slice
  obtain ⟨i0, hi, hz0, hz1, hz2⟩ := info_parts Tryd.info56
  obtain ⟨cs1, hcs1⟩ : ∃ cs, cs = (List.range (fs.length * 5)).map c1 := ⟨_, rfl⟩
  obtain ⟨cs2, hcs2⟩ : ∃ cs, cs = (List.range (gs.length * 5)).map c2 := ⟨_, rfl⟩
  rw [← hcs1] at hf1 hc1
  rw [← hcs2] at hf2 hc2
  have HR1 := Lib.hid hr1; have HF1 := Lib.hid hf1; have HC1 := Lib.hid hc1
  have HR2 := Lib.hid hr2; have HF2 := Lib.hid hf2; have HC2 := Lib.hid hc2; have HS := Lib.hid hs
  have s0 : w.cell? ⟨sb, 0, none⟩ = some (.slice a1 fs.length x1) := by rw [cell_of_row _ _ _ _ _ _ hs]; rfl
  have s1 : w.cell? ⟨sb, 1, none⟩ = some (.slice a2 gs.length x2) := by rw [cell_of_row _ _ _ _ _ _ hs]; rfl
  clear hr1 hf1 hc1 hr2 hf2 hc2 hcs1 hcs2 h1 h2 hs
  go_enter Tryd.func54, Tryd.ntmps54
  go_wp2_with fail
  go_loop [3, 11] (fun s kv => ∃ k : Nat, k ≤ 2 ∧ kv = .int .i64 k ∧ s = .int .i64 ((sumL fs.length gs.length k : Nat) : Int)) (fun _ kv => 2 - (intOf kv).toNat)
  case atStart => exact ⟨0, Nat.zero_le _, rfl, rfl⟩
  case round =>
    obtain ⟨k, hk, rfl, rfl⟩ := hrel
    have : k = 0 ∨ k = 1 ∨ k = 2 := by omega
    rcases this with rfl | rfl | rfl
    · rw [show sumL fs.length gs.length 0 = 0 from rfl]
      have hsi : ¬ ((fs.length : Nat) : Int) < 0 := by omega
      go_wp2
      go_round
      case rel => exact ⟨1, by omega, by go_num, by go_num⟩
      case measure => decide
    · rw [show sumL fs.length gs.length 1 = fs.length from rfl]
      have hsi : ¬ ((fs.length : Nat) : Int) + ((gs.length : Nat) : Int) < 0 := by omega
      go_wp2
      go_round
      case rel => exact ⟨2, by omega, by go_num, by rw [show sumL fs.length gs.length 2 = fs.length + gs.length from rfl]; go_num⟩
      case measure => decide
    · rw [show sumL fs.length gs.length 2 = fs.length + gs.length from rfl]
      have hgf := grow_facts (fs.length + gs.length) w (by omega) (by omega)
      rw [show ((fs.length + gs.length : Nat) : Int) = (fs.length : Int) + (gs.length : Int) by omega] at hgf
      have HG := Lib.hid hgf
      clear hgf
      go_wp2_with fail
      refine HG.out.mono ?_
      rintro e w1 ⟨gv, rfl, hown, hb1⟩
      obtain ⟨ga, gc, rfl⟩ := own_form hown
      have HOW := Lib.hid hown; have HB1 := Lib.hid hb1
      clear hown hb1 HG
      go_wp2_with fail
      go_loopw [6, 27] (fun v kv wr => ∃ k : Nat, k ≤ 2 ∧ kv = .int .i64 k ∧ wr.ownsRow w.heap.size 56 5 v (sumL fs.length gs.length k) (catL cs1 cs2 k) ∧ Below w.heap.size w wr) (fun _ kv _ => 2 - (intOf kv).toNat)
      case atStart => exact ⟨0, Nat.zero_le _, rfl, HOW.out, HB1.out⟩
      case round =>
        clear HOW HB1
        obtain ⟨k, hk, rfl, hown, hb⟩ := hrel
        have zs : sb < w.heap.size := (Array.getElem?_eq_some_iff.1 HS.out).1
        have t0 : wr.cell? ⟨sb, 0, none⟩ = some (.slice a1 fs.length x1) := (hb.cell (p := ⟨sb, 0, none⟩) zs).trans s0
        have t1 : wr.cell? ⟨sb, 1, none⟩ = some (.slice a2 gs.length x2) := (hb.cell (p := ⟨sb, 1, none⟩) zs).trans s1
        have HOW := Lib.hid hown; have HB := Lib.hid hb
        clear hown hb
        have : k = 0 ∨ k = 1 ∨ k = 2 := by omega
        rcases this with rfl | rfl | rfl
        · go_wp2_with (at_builtin; refine wpList_append_row rfl _ _ 35 rfl w.heap.size 56 i0 _ 5 56 Tryd.underlying35 hi hz0 hz1 hz2 rfl (by decide) _ _ _ rfl HOW.out (.slice a1 fs.length x1) fs.length c1 B rfl (HR1.out.below HB.out hB) cs1 HF1.out.1 HC1.out HF1.out.one ?c3 ?c4 HB.out.size ?_)
          case c3 => rw [show sumL fs.length gs.length 0 = 0 from rfl]; unfold maxLen; omega
          case c4 => rw [show sumL fs.length gs.length 0 = 0 from rfl]; omega
          intro v' w2 hown2 hgrow2 _
          have hb2 := HB.out.grown hgrow2 HB.out.size (fun q hq => (HOW.out.lt q hq).1)
          rw [show sumL fs.length gs.length 0 + fs.length = sumL fs.length gs.length 1 from Nat.zero_add _, show catL cs1 cs2 0 ++ cs1 = catL cs1 cs2 1 from rfl] at hown2
          have HO2 := Lib.hid hown2; have HB2 := Lib.hid hb2
          clear hown2 hgrow2 hb2 t0 t1
          go_wp2
          go_roundw
          case rel => exact ⟨1, by omega, by go_num, HO2.out, HB2.out⟩
          case measure => decide
        · go_wp2_with (at_builtin; refine wpList_append_row rfl _ _ 35 rfl w.heap.size 56 i0 _ 5 56 Tryd.underlying35 hi hz0 hz1 hz2 rfl (by decide) _ _ _ rfl HOW.out (.slice a2 gs.length x2) gs.length c2 B rfl (HR2.out.below HB.out hB) cs2 HF2.out.1 HC2.out HF2.out.one ?c3 ?c4 HB.out.size ?_)
          case c3 => rw [show sumL fs.length gs.length 1 = fs.length from rfl]; unfold maxLen; omega
          case c4 => rw [show sumL fs.length gs.length 1 = fs.length from rfl]; omega
          intro v' w2 hown2 hgrow2 _
          have hb2 := HB.out.grown hgrow2 HB.out.size (fun q hq => (HOW.out.lt q hq).1)
          rw [show sumL fs.length gs.length 1 + gs.length = sumL fs.length gs.length 2 from rfl, show catL cs1 cs2 1 ++ cs2 = catL cs1 cs2 2 from rfl] at hown2
          have HO2 := Lib.hid hown2; have HB2 := Lib.hid hb2
          clear hown2 hgrow2 hb2 t0 t1
          go_wp2
          go_roundw
          case rel => exact ⟨2, by omega, by go_num, HO2.out, HB2.out⟩
          case measure => decide
        · have hfc : FCells (cs1 ++ cs2) wr B (fs ++ gs) := (HF1.out.below HB.out hB).append (HF2.out.below HB.out hB)
          have how : wr.ownsRow w.heap.size 56 5 u6 (fs ++ gs).length (cs1 ++ cs2) := by rw [List.length_append]; exact HOW.out
          have hfin := hfc.fcts how (Nat.le_trans hB HB.out.size) (by rw [List.length_append]; omega)
          have HFIN := Lib.hid hfin
          clear hfc how hfin t0 t1
          go_wp2
          go_ret
          exact ⟨_, rfl, HFIN.out, HB.out⟩
end Go.Proofs.YtilbbnjfaoldoaaDoor
