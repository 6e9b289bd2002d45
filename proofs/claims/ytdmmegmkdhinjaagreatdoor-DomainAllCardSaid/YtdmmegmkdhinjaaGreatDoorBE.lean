/- Package domain: the Why of a cut. · Package domain: removing values, in plain Lean. -/
import Derived.Test.YtdmmegmkdhinjaaGreatDoorBD
namespace Go.Proofs.YtdmmegmkdhinjaaGreatDoor
open Go Go.RowKit
attribute [local go_sem] cell_grow u64_sAnd u64_sOr u64_sDiff sDiff_all zeqI zneI sAnd_bit_zero sAnd_bit_zeroN sAnd_bit_nonzero Oper.semAt_some wide_fn wide_depth

def whyK (p : Dp) (l : List Cut) (c : Cut) (k : Nat) : List Int :=
  ((List.range k).filter fun i => !((cget l i).var == c.var) && ihas (drget p.rules c.rule.toNat).vars (cget l i).var).map natI
theorem whyK_succ (p : Dp) (l : List Cut) (c : Cut) (k : Nat) : whyK p l c (k + 1) = if (!((cget l k).var == c.var) && ihas (drget p.rules c.rule.toNat).vars (cget l k).var) = true then whyK p l c k ++ [(k : Int)] else whyK p l c k := by
  unfold whyK
  rw [List.range_succ, List.filter_append, List.map_append]
  by_cases h : (!((cget l k).var == c.var) && ihas (drget p.rules c.rule.toNat).vars (cget l k).var) = true
  · rw [if_pos h]; simp only [List.filter_cons]; rw [if_pos h]; rfl
  · rw [if_neg h]; simp only [List.filter_cons]; rw [if_neg h]; simp
theorem whyK_length (p : Dp) (l : List Cut) (c : Cut) (k : Nat) : (whyK p l c k).length ≤ k := by
  unfold whyK
  rw [List.length_map]
  exact Nat.le_trans (List.length_filter_le _ _) (by simp)
theorem whyK_nats (p : Dp) (l : List Cut) (c : Cut) (k : Nat) : NatsB k (whyK p l c k) := fun x hx => by
  unfold whyK at hx
  obtain ⟨i, hi, rfl⟩ := List.mem_map.1 hx
  exact ⟨i, rfl, List.mem_range.1 (List.mem_filter.1 hi).1⟩
theorem redD_succ (p : Dp) (l : List Cut) (c : Cut) (i : Nat) (xs : List Int) : redD p l c (i + 1) xs = redD p l c i (if explD p l { c with why := xs.eraseIdx i } then xs.eraseIdx i else xs) := by
  rw [redD]
  split <;> rfl
set_option maxRecDepth 100000 in
set_option maxHeartbeats 4000000 in
theorem reason_any (p : Dp) (l : List Cut) (v e j : Nat) (f : List Nat) (rs : Bool) (dv rv lv : Value) (x : Nat) (w : World) {B : Nat} (hdv : Us w B dv p.doms) (hrv : DRls w B rv p.rules) (hlv : Cts w B lv l) (_ : 0 < B) (hB : B ≤ w.heap.size)
    (hx : w.heap[x]? = some (.cells (propC dv rv f lv rs).toArray 80 (0, 0))) (h8 : f.length = 8) (hpo : probD p = true) (hl : ∀ i, i < l.length → CFit (cget l i)) (hln : l.length ≤ 100000) (hjl : j < p.rules.length) (hvar : (v : Int) ∈ (drget p.rules j).vars) (hT : Tab w) :
    Calls Tryz.prog 110 #[.pointer (some ⟨x, 0, none⟩), .agg #[.int .i64 v, .int .i64 e, .int .i64 j, .slice none 0 0]] w fun r w' =>
      ∃ yv, r = .returned (.agg #[.int .i64 v, .int .i64 e, .int .i64 j, yv]) ∧ w'.ownsRow w.heap.size 3 1 yv (reasonD p l ⟨v, e, j, []⟩).why.length (intsV (reasonD p l ⟨v, e, j, []⟩).why) ∧ Below w.heap.size w w' := by
  have HDV := Lib.hid hdv; have HRV := Lib.hid hrv; have HLV := Lib.hid hlv; have HT := Lib.hid hT; have HPO := Lib.hid hpo; have HL := Lib.hid hl; have HX := Lib.hid hx; have HVAR := Lib.hid hvar
  obtain ⟨da, dc, rfl⟩ := hdv.slice
  obtain ⟨ra, rc, rfl⟩ := hrv.slice
  obtain ⟨la, lc, rfl⟩ := hlv.slice
  have hxl : x < w.heap.size := (Array.getElem?_eq_some_iff.1 hx).1
  obtain ⟨i0, hin, hz0, hz1, hz2⟩ := info_parts info3
  have x10 : w.cell? ⟨x, 10, none⟩ = some (.slice la l.length lc) := (propC_cells h8 hx).2.2.2.1
  clear hdv hrv hlv hT hpo hl hx hvar
  go_enter Tryz.func110, Tryz.ntmps110
  go_wp2_with fail
  refine abs_wp (fun W => W.heap[w.heap.size]? = some (.cells #[.int .i64 v, .int .i64 e, .int .i64 j, .slice none 0 0] 73 (0, 0)) ∧ (∃ z : Array Value, z.size = 4 ∧ W.heap[w.heap.size + 1]? = some (.cells z 73 (0, 0))) ∧ Below w.heap.size w W ∧ w.heap.size + 2 = W.heap.size) ⟨(heap_new2 _ _ _).1, ⟨_, rfl, (heap_new2 _ _ _).2⟩, Below.new2 _ _ _, by simp⟩ ?_
  rintro W ⟨k0, k1, hb0, hs0⟩
  have HK0 := Lib.hid k0; have HK1 := Lib.hid k1; have HB0 := Lib.hid hb0; have HS0 := Lib.hid hs0
  clear k0 k1 hb0 hs0 x10
  go_loopw [14] (fun i wr => ∃ k : Nat, ∃ yv, k ≤ l.length ∧ i = .int .i64 k ∧ wr.heap[w.heap.size]? = some (.cells #[.int .i64 v, .int .i64 e, .int .i64 j, yv] 73 (0, 0)) ∧ (∃ z : Array Value, z.size = 4 ∧ wr.heap[w.heap.size + 1]? = some (.cells z 73 (0, 0))) ∧
    wr.ownsRow (w.heap.size + 2) 3 1 yv (whyK p l ⟨v, e, j, []⟩ k).length (intsV (whyK p l ⟨v, e, j, []⟩ k)) ∧ Below w.heap.size w wr ∧ w.heap.size + 2 ≤ wr.heap.size) (fun i _ => l.length - (intOf i).toNat)
  case atStart => exact ⟨0, _, Nat.zero_le _, rfl, HK0.out, HK1.out, World.ownsRow_nil _ _ _ _, HB0.out, by have := HS0.out; omega⟩
  case round =>
    obtain ⟨k, yv, hk, rfl, hF, hZ, hown, hbw, hsz⟩ := hrel
    have x0 := propC_cells h8 (heap_later HX.out hbw hxl)
    have x1 := x0.2.1
    have z0 : x < wr.heap.size := by omega
    have z1 : w.heap.size < wr.heap.size := by omega
    have HF := Lib.hid hF; have HOW := Lib.hid hown; have HBW := Lib.hid hbw; have HZ := Lib.hid hZ
    by_cases hlt : k < l.length
    · have d0 : wr.cell? ⟨w.heap.size, 0, none⟩ = some (.int .i64 v) := by rw [cell_of_row _ _ _ _ _ _ hF]; rfl
      have d2 : wr.cell? ⟨w.heap.size, 2, none⟩ = some (.int .i64 j) := by rw [cell_of_row _ _ _ _ _ _ hF]; rfl
      obtain ⟨lb, lo, ov, rfl, hlb, hov, l0, l1, l2, l3⟩ := (HLV.out.below hbw hB).cells hlt
      obtain ⟨oa, oc, rfl⟩ := hov.slice
      obtain ⟨rb, ro, vv, nv, rfl, hrb, hra, q0, q1, q2, q3⟩ := (HRV.out.below hbw hB).cells hjl
      obtain ⟨va, vc, rfl⟩ := hra.vars.slice
      have HVV := Lib.hid hra.vars
      have hwk := whyK_succ p l ⟨v, e, j, []⟩ k
      obtain ⟨u, hu⟩ : ∃ u, u = (cget l k).var := ⟨_, rfl⟩
      rw [← hu] at l0 hwk
      simp only [Int.toNat_natCast] at hwk
      have HWK := Lib.hid hwk
      clear hF hown hbw hov hra x0 hwk hZ
      go_wp2_with fail
      refine abs_wp (fun W => W.heap[wr.heap.size]? = some (.cells #[.int .i64 u, .int .i64 (cget l k).value, .int .i64 (cget l k).rule, .slice oa (cget l k).why.length oc] 73 (0, 0)) ∧ Below wr.heap.size wr W ∧ wr.heap.size + 1 = W.heap.size) ⟨by first | exact heap_new0 _ _ | (rw [hu]; exact heap_new0 _ _), Below.new1 _ _, by simp⟩ ?_
      rintro W2 ⟨g0, hb3, hs3⟩
      have e0 : W2.cell? ⟨wr.heap.size, 0, none⟩ = some (.int .i64 u) := by rw [cell_of_row _ _ _ _ _ _ g0]; rfl
      rw [← (bcell hb3).1 _ _ z1] at d0 d2
      rw [← (bcell hb3).1 _ _ z0] at x1
      rw [← (bcell hb3).1 _ _ (by omega)] at q1
      have y0 : x < W2.heap.size := by omega
      have y1 : w.heap.size < W2.heap.size := by omega
      have y2 : rb < W2.heap.size := by omega
      have y3 : wr.heap.size < W2.heap.size := by omega
      have hc : ∀ d os, Gives Tryz.prog 80 #[.slice va (drget p.rules j).vars.length vc, .int .i64 u] (Go.Sort.grow (redrawn W2 d) os) (.bool (ihas (drget p.rules j).vars u)) := fun d os =>
        Gives.of_same (contains_ints _ _ _ _ (HVV.out.below (hb3.trans ((below_regrown W2 d os).mono hb3.size)) (by omega)))
      have HC := Lib.hid hc; have HB3 := Lib.hid hb3
      clear hc hb3 g0 l0 l1 l2 l3 q0 q2 q3 hu
      by_cases huv : u = (v : Int)
      · subst huv
        have HWK2 : Hid (whyK p l ⟨v, e, j, []⟩ (k + 1) = whyK p l ⟨v, e, j, []⟩ k) := Lib.hid (by rw [HWK.out]; simp)
        clear HWK
        refine wp_region_qb (by kernel_rfl) (by kernel_rfl) ?_
        repeat go_big_quiet_step (fail)
        refine wpQuiet_nil ?_
        intro w2 hb2
        have hb := HB3.out.trans (hb2.mono HB3.out.size)
        have hF2 := heap_later HF.out hb z1
        have hZ2 : ∃ z : Array Value, z.size = 4 ∧ w2.heap[w.heap.size + 1]? = some (.cells z 73 (0, 0)) := by obtain ⟨z, hz, hz'⟩ := HZ.out; exact ⟨z, hz, heap_later hz' hb (by omega)⟩
        have ho2 := HOW.out.kept (row := none) ⟨hb.os, hb.tape, hb.output, hb.size, fun k hk _ => hb.block k hk⟩ (by cases hob : yv.ownBlock; exact .inl rfl; exact .inr (by simp))
        have hbf := HBW.out.trans (hb.mono HBW.out.size)
        have hsf := hb.size
        clear hb hb2
        go_wp2
        go_roundw
        case rel => exact ⟨k + 1, yv, by omega, by go_num, hF2, hZ2, by rw [HWK2.out]; exact ho2, hbf, by omega⟩
        case measure => simp [intOf]; omega
      · have hne : (u != (v : Int)) = true := by rw [bne_iff_ne]; exact huv
        have hne2 : (u == (v : Int)) = false := by rw [beq_eq_false_iff_ne]; exact huv
        cases hi : ihas (drget p.rules j).vars u <;> rw [hi] at HC
        case false =>
          have HWK2 : Hid (whyK p l ⟨v, e, j, []⟩ (k + 1) = whyK p l ⟨v, e, j, []⟩ k) := Lib.hid (by rw [HWK.out, if_neg (by rw [hi]; simp)])
          clear HWK hi huv hne2
          refine wp_region_qb (by kernel_rfl) (by kernel_rfl) ?_
          repeat go_big_quiet_step ((with_reducible exact Gives.quiet (HC.out _ _)))
          refine wpQuiet_nil ?_
          intro w2 hb2
          have hb := HB3.out.trans (hb2.mono HB3.out.size)
          have hF2 := heap_later HF.out hb z1
          have hZ2 : ∃ z : Array Value, z.size = 4 ∧ w2.heap[w.heap.size + 1]? = some (.cells z 73 (0, 0)) := by obtain ⟨z, hz, hz'⟩ := HZ.out; exact ⟨z, hz, heap_later hz' hb (by omega)⟩
          have ho2 := HOW.out.kept (row := none) ⟨hb.os, hb.tape, hb.output, hb.size, fun k hk _ => hb.block k hk⟩ (by cases hob : yv.ownBlock; exact .inl rfl; exact .inr (by simp))
          have hbf := HBW.out.trans (hb.mono HBW.out.size)
          have hsf := hb.size
          clear hb hb2
          go_wp2
          go_roundw
          case rel => exact ⟨k + 1, yv, by omega, by go_num, hF2, hZ2, by rw [HWK2.out]; exact ho2, hbf, by omega⟩
          case measure => simp [intOf]; omega
        case true =>
          have HWK2 : Hid (whyK p l ⟨v, e, j, []⟩ (k + 1) = whyK p l ⟨v, e, j, []⟩ k ++ [(k : Int)]) := Lib.hid (by rw [HWK.out, if_pos (by rw [hi, hne2]; rfl)])
          clear HWK hi huv hne2
          refine wp_region_qb (by kernel_rfl) (by kernel_rfl) ?_
          repeat go_big_quiet_step ((with_reducible exact Gives.quiet (HC.out _ _)))
          refine wpQuiet_nil ?_
          intro w2 hb2
          have hb := HB3.out.trans (hb2.mono HB3.out.size)
          have hF2 := heap_later HF.out hb z1
          have hZ2 : ∃ z : Array Value, z.size = 4 ∧ w2.heap[w.heap.size + 1]? = some (.cells z 73 (0, 0)) := by obtain ⟨z, hz, hz'⟩ := HZ.out; exact ⟨z, hz, heap_later hz' hb (by omega)⟩
          have ho2 := HOW.out.kept (row := none) ⟨hb.os, hb.tape, hb.output, hb.size, fun k hk _ => hb.block k hk⟩ (by cases hob : yv.ownBlock; exact .inl rfl; exact .inr (by simp))
          have hbf := HBW.out.trans (hb.mono HBW.out.size)
          have hsf := hb.size
          clear hb hb2
          have d3 : w2.cell? ⟨w.heap.size, 3, none⟩ = some yv := by rw [cell_of_row _ _ _ _ _ _ hF2]; rfl
          have hwl := whyK_length p l ⟨v, e, j, []⟩ k
          go_wp2_with (at_builtin; refine wpList_append_own _ rfl _ _ 39 rfl (w.heap.size + 2) 3 i0 (.int .i64 0) 1 8 Tryz.underlying39 hin hz0 hz1 hz2 rfl (by decide) _ _ _ rfl (ho2.alloc _) ⟨w2.heap.size, 0, none⟩ 1 1 (intsV [(k : Int)]) rfl rfl ?c1 ?c2 ?c3 ?c4 ?c5 ?_)
          case c1 =>
            intro q u hq
            match q, hq with
            | 0, hq => cases hq; rw [Addr.add_lit]; exact cell_of_one (heap_new0 _ _)
          case c2 => exact ints_one _
          case c3 => unfold maxLen; omega
          case c4 => omega
          case c5 => simp; omega
          intro v' w3 hown3 hgrow3 _
          have hF3 : w3.heap[w.heap.size]? = some (.cells #[.int .i64 v, .int .i64 e, .int .i64 j, yv] 73 (0, 0)) :=
            (hgrow3.block _ (by simp; omega) (fun hh => by have := (ho2.lt _ hh.symm).1; omega)).trans (heap_old hF2)
          have hZ3 : ∃ z : Array Value, z.size = 4 ∧ w3.heap[w.heap.size + 1]? = some (.cells z 73 (0, 0)) := by
            obtain ⟨z, hz, hz'⟩ := hZ2
            exact ⟨z, hz, (hgrow3.block _ (by simp; omega) (fun hh => by have := (ho2.lt _ hh.symm).1; omega)).trans (heap_old hz')⟩
          have hb3 := (hbf.alloc hbf.size (.cells #[.int .i64 k] 3)).grown hgrow3 (by simp; omega) (fun q hq => by have := (ho2.lt q hq).1; omega)
          have hne : v'.ownBlock ≠ some w.heap.size := fun hh => by have := (hown3.lt _ hh).1; omega
          have g4 : w3.cell? ⟨w.heap.size, 3, none⟩ = some yv := by rw [cell_of_row _ _ _ _ _ _ hF3]; rfl
          have g4f : w3.frozen? ⟨w.heap.size, 3, none⟩ = false := by simp [World.frozen?, hF3]
          have hsz3 : w.heap.size + 2 ≤ w3.heap.size := by have := hgrow3.size; simp at this; omega
          rw [intsV_append] at hown3
          clear hgrow3
          obtain ⟨g5, cp, rfl⟩ := Slice.own_succ hown3
          go_wp2
          go_roundw
          case rel =>
            refine ⟨k + 1, .slice (some ⟨g5, 0, none⟩) ((whyK p l ⟨v, e, j, []⟩ k).length + 1) cp, by omega, by go_num, ?_, ?_, ?_, hb3.setCell (Nat.le_refl _) _, by simpa using hsz3⟩
            · simp only [World.setCell, Array.getElem?_modify, if_true, hF3, Option.map_some]; rfl
            · obtain ⟨z, hz, hz'⟩ := hZ3
              exact ⟨z, hz, (Below.heap_setCell _ _ _ _ (by show w.heap.size + 1 ≠ w.heap.size; omega)).trans hz'⟩
            · rw [HWK2.out]
              simpa using ownsRow_setCell_other hown3 (a := ⟨w.heap.size, 3, none⟩) hne _
          case measure => simp [intOf]; omega
    · have hk2 : k = l.length := by omega
      subst hk2
      have hws := whyK_nats p l ⟨v, e, j, []⟩ l.length
      have hwl := whyK_length p l ⟨v, e, j, []⟩ l.length
      have hwo : (reasonD p l ⟨v, e, j, []⟩).why = redD p l ⟨v, e, j, []⟩ (whyK p l ⟨v, e, j, []⟩ l.length).length (whyK p l ⟨v, e, j, []⟩ l.length) := rfl
      obtain ⟨ws, hwsd⟩ : ∃ ws, ws = whyK p l ⟨v, e, j, []⟩ l.length := ⟨_, rfl⟩
      rw [← hwsd] at hws hwl hwo hown
      have hin2 : Ints wr wr.heap.size yv ws := ownsRow_ints hown (by omega) rfl
      obtain ⟨ya, yc, rfl⟩ := hin2.slice
      have d3 : wr.cell? ⟨w.heap.size, 3, none⟩ = some (.slice ya ws.length yc) := by rw [cell_of_row _ _ _ _ _ _ hF]; rfl
      have HWS := Lib.hid hws; have HIN := Lib.hid hown; have HWO := Lib.hid hwo
      clear hws hin2 hwo hwsd hF hown hbw x0 x1 HOW hZ
      go_wp2_with fail
      clear d3
      go_loopw [7] (fun i wr => ∃ m : Nat, ∃ ws yv, i = .int .i64 ((m : Int) - 1) ∧ m ≤ ws.length ∧ ws.length ≤ l.length ∧ (reasonD p l ⟨v, e, j, []⟩).why = redD p l ⟨v, e, j, []⟩ m ws ∧ NatsB l.length ws ∧ wr.heap[w.heap.size]? = some (.cells #[.int .i64 v, .int .i64 e, .int .i64 j, yv] 73 (0, 0)) ∧ (∃ z : Array Value, z.size = 4 ∧ wr.heap[w.heap.size + 1]? = some (.cells z 73 (0, 0))) ∧
        wr.ownsRow (w.heap.size + 2) 3 1 yv ws.length (intsV ws) ∧ Below w.heap.size w wr ∧ w.heap.size + 2 ≤ wr.heap.size) (fun i _ => (intOf i + 1).toNat)
      case atStart => exact ⟨ws.length, ws, _, rfl, Nat.le_refl _, hwl, HWO.out, HWS.out, HF.out, HZ.out, HIN.out, HBW.out, hsz⟩
      case round =>
        clear HF HWS HIN HWO HBW HZ
        obtain ⟨m, ws, yv, rfl, hm, hwl, hwo, hws, hF, hZ, hown2, hbw, hsz⟩ := hrel
        have hin2 : Ints wr wr.heap.size yv ws := ownsRow_ints hown2 (by omega) rfl
        obtain ⟨ya, yc, rfl⟩ := hin2.slice
        have d0 : wr.cell? ⟨w.heap.size, 0, none⟩ = some (.int .i64 v) := by rw [cell_of_row _ _ _ _ _ _ hF]; rfl
        have d1 : wr.cell? ⟨w.heap.size, 1, none⟩ = some (.int .i64 e) := by rw [cell_of_row _ _ _ _ _ _ hF]; rfl
        have d2 : wr.cell? ⟨w.heap.size, 2, none⟩ = some (.int .i64 j) := by rw [cell_of_row _ _ _ _ _ _ hF]; rfl
        have d3 : wr.cell? ⟨w.heap.size, 3, none⟩ = some (.slice ya ws.length yc) := by rw [cell_of_row _ _ _ _ _ _ hF]; rfl
        rcases m with _ | m
        · have hfin : wr.ownsRow w.heap.size 3 1 (.slice ya ws.length yc) (reasonD p l ⟨v, e, j, []⟩).why.length (intsV (reasonD p l ⟨v, e, j, []⟩).why) := by rw [hwo]; exact own_mono hown2 (by omega)
          have HFI := Lib.hid hfin; have HBW := Lib.hid hbw; have HZ := Lib.hid hZ
          clear hwo hws hF hin2 hbw hfin hown2 hZ
          obtain ⟨z, hz, hz'⟩ := HZ.out
          have ht : wr.there (w.heap.size + 1) 0 [Value.int .i64 v, .int .i64 e, .int .i64 j, .slice ya ws.length yc].length := fresh_there hz' hz
          have hi : (Tryz.prog.info? 73).map (·.size) = some [Value.int .i64 v, .int .i64 e, .int .i64 j, .slice ya ws.length yc].length := by kernel_rfl
          have hld := run_loadVar_mid _ _ 0 73 (P := Tryz.prog) _ _ (World.rangeAt_setCells_same wr _ 0 _ ht) Tryz.underlying73 rfl hi
          have HLD := Lib.hid hld; have HTH := Lib.hid ht; have HII := Lib.hid hi
          have HBF := Lib.hid (below_setCells (Nat.le_succ _) [Value.int .i64 v, .int .i64 e, .int .i64 j, .slice ya ws.length yc] 0 _ HBW.out)
          have HFI2 : Hid ((wr.setCells (w.heap.size + 1) 0 [Value.int .i64 v, .int .i64 e, .int .i64 j, .slice ya ws.length yc]).ownsRow w.heap.size 3 1 (.slice ya ws.length yc) (reasonD p l ⟨v, e, j, []⟩).why.length (intsV (reasonD p l ⟨v, e, j, []⟩).why)) := Lib.hid (own_type HFI.out (fun k c hk => by
            rw [World.heap_setCells_other _ _ _ _ (Array.getElem?_eq_some_iff.1 hk).1 (show k ≠ w.heap.size + 1 from ne_of_types hk hz' (by decide))]; exact hk))
          obtain ⟨W9, hW9⟩ : ∃ W9, wr.setCells (w.heap.size + 1) 0 [Value.int .i64 v, .int .i64 e, .int .i64 j, .slice ya ws.length yc] = W9 := ⟨_, rfl⟩
          rw [hW9] at HLD HFI2 HBF
          have HW9 := Lib.hid hW9
          have HONE : Hid (∀ u ∈ [Value.int .i64 v, .int .i64 e, .int .i64 j, .slice ya ws.length yc], u.oneCell' = true) := Lib.hid (by
            intro u hu
            simp only [List.mem_cons, List.not_mem_nil, or_false] at hu
            rcases hu with rfl | rfl | rfl | rfl <;> rfl)
          clear hz hz' ht hi hld hW9
          go_wp2_with (refine wpList_store_mid rfl 73 _ _ rfl _ _ _ rfl rfl HTH.out HII.out (all_oneCell_toArray HONE.out) ?_
                       rw [show World.setCells wr (w.heap.size + 1) 0 _ = W9 from HW9.out])
          exact bodyPost_ret (results_cell1 rfl rfl HLD.out) rfl ⟨_, rfl, HFI2.out, HBF.out⟩
        · have e7 : (((m + 1 : Nat) : Int) - 1) = m := by omega
          rw [e7]
          obtain ⟨_, a', c', hae, hnc, hcm, hrow⟩ := hin2
          cases hae
          obtain ⟨yb, yo, rfl, hyb, hycell⟩ := hrow (by omega)
          have hin2 : Ints wr wr.heap.size (.slice (some ⟨yb, yo, none⟩) ws.length yc) ws := ⟨by omega, _, _, rfl, hnc, hcm, hrow⟩
          have HF := Lib.hid hF; have HIN := Lib.hid hin2; have HWS := Lib.hid hws; have HWO := Lib.hid hwo; have HBW := Lib.hid hbw; have HOW2 := Lib.hid hown2; have HZ := Lib.hid hZ
          have z1 : w.heap.size < wr.heap.size := by omega
          clear hrow hycell hF hin2 hws hwo hbw hown2 hZ
          go_wp2_with fail
          refine (clone_ints ws yb yo _ yc _ (HIN.out.below (Below.new1 _ _) (Nat.le_refl _)) (by omega) (by omega)).mono ?_
          rintro r w1 ⟨cv, rfl, hown, hb1⟩
          obtain ⟨g, cp, rfl⟩ : ∃ g cap, cv = .slice (some ⟨g, 0, none⟩) ws.length cap := by
            obtain ⟨q, hq⟩ : ∃ q, ws.length = q + 1 := ⟨ws.length - 1, by omega⟩
            rw [hq] at hown ⊢; exact Slice.own_succ hown
          have hgb := (hown.lt g rfl).1
          have hsg : wr.heap.size + 1 ≤ g := by simpa using hgb
          have hF8 := heap_later (heap_new0 wr (.cells #[.int .i64 v, .int .i64 e, .int .i64 j, .slice (some ⟨yb, yo, none⟩) ws.length yc] 73)) hb1 (by simp)
          have hbw1 : Below wr.heap.size wr w1 := (Below.new1 _ _).trans (hb1.mono (by simp))
          have hs1 : wr.heap.size + 1 ≤ w1.heap.size := by have := hb1.size; simpa using this
          have HOW := Lib.hid hown; have HF8 := Lib.hid hF8; have HBW1 := Lib.hid hbw1
          clear hown hF8 hbw1 hb1 hgb d0 d1 d2 d3
          go_wp2_with fail
          refine (delete_ints ws g _ cp m _ _ HOW.out (by omega)).mono ?_
          rintro r w2 ⟨rfl, hown, hb2⟩
          have hF8 := heap_later HF8.out hb2 (by omega)
          have hbw2 : Below wr.heap.size wr w2 := HBW1.out.trans (hb2.mono (by omega))
          have f4 : w2.cell? ⟨wr.heap.size, 3, none⟩ = some (.slice (some ⟨yb, yo, none⟩) ws.length yc) := by rw [cell_of_row _ _ _ _ _ _ hF8]; rfl
          have f4f : w2.frozen? ⟨wr.heap.size, 3, none⟩ = false := by simp [World.frozen?, hF8]
          have hs2 : wr.heap.size + 1 ≤ w2.heap.size := by have := hb2.size; omega
          clear HOW HF8 HBW1
          go_wp2_with fail
          refine abs_wp (fun W => W.heap[wr.heap.size]? = some (.cells #[.int .i64 v, .int .i64 e, .int .i64 j, .slice (some ⟨g, 0, none⟩) (ws.length - 1) cp] 73 (0, 0)) ∧ Below wr.heap.size wr W ∧ wr.heap.size + 1 ≤ W.heap.size ∧
            W.ownsRow (wr.heap.size + 1) 3 1 (.slice (some ⟨g, 0, none⟩) (ws.length - 1) cp) (ws.length - 1) (intsV (ws.eraseIdx m)))
            ⟨by simp only [World.setCell, Array.getElem?_modify, if_true, hF8, Option.map_some]; rfl, hbw2.setCell (Nat.le_refl _) _, by simpa using hs2, by
              have := ownsRow_setCell_other hown (a := ⟨wr.heap.size, 3, none⟩) (by simp [Value.ownBlock]; omega) (.slice (some ⟨g, 0, none⟩) (ws.length - 1) cp)
              simpa using this⟩ ?_
          clear hown hb2 hF8 hbw2 f4 f4f hs2
          rintro W5 ⟨hF8, hb5, hs5, hown⟩
          have hel : (ws.eraseIdx m).length = ws.length - 1 := by rw [List.length_eraseIdx, if_pos (by omega)]
          have hin5 : Ints W5 W5.heap.size (.slice (some ⟨g, 0, none⟩) (ws.length - 1) cp) (ws.eraseIdx m) := ownsRow_ints hown (by omega) hel
          have hbf := HBW.out.trans (hb5.mono HBW.out.size)
          have xx := propC_cells h8 (heap_later HX.out hbf hxl)
          have x0 := xx.1; have x1 := xx.2.1; have x10 := xx.2.2.2.1
          have y0 : x < W5.heap.size := by have := hbf.size; omega
          have y1 : wr.heap.size < W5.heap.size := by omega
          have g0 : W5.cell? ⟨wr.heap.size, 0, none⟩ = some (.int .i64 v) := by rw [cell_of_row _ _ _ _ _ _ hF8]; rfl
          have g1 : W5.cell? ⟨wr.heap.size, 1, none⟩ = some (.int .i64 e) := by rw [cell_of_row _ _ _ _ _ _ hF8]; rfl
          have g2 : W5.cell? ⟨wr.heap.size, 2, none⟩ = some (.int .i64 j) := by rw [cell_of_row _ _ _ _ _ _ hF8]; rfl
          have g3 : W5.cell? ⟨wr.heap.size, 3, none⟩ = some (.slice (some ⟨g, 0, none⟩) (ws.length - 1) cp) := by rw [cell_of_row _ _ _ _ _ _ hF8]; rfl
          have HB5 := Lib.hid hb5; have HBF := Lib.hid hbf; have HI5 := Lib.hid hin5; have HOW := Lib.hid hown; have HF8 := Lib.hid hF8
          have hwo2 := HWO.out
          rw [redD_succ] at hwo2
          have h1 : ∀ d os, Gives Tryz.prog 85 #[.agg #[.slice da p.doms.length dc, .slice ra p.rules.length rc], .slice la l.length lc, .agg #[.int .i64 v, .int .i64 e, .int .i64 j, .slice (some ⟨g, 0, none⟩) (ws.length - 1) cp]] (Go.Sort.grow (redrawn W5 d) os) (.bool (explD p l ⟨v, e, j, ws.eraseIdx m⟩)) := fun d os =>
            explained_any p l ⟨v, e, j, ws.eraseIdx m⟩ _ _ _ _ _ (B := W5.heap.size) ((HDV.out.below (below_grow HBF.out d os) hB).mono (by have := HBF.out.size; omega)) ((HRV.out.below (below_grow HBF.out d os) hB).mono (by have := HBF.out.size; omega)) ((HLV.out.below (below_grow HBF.out d os) hB).mono (by have := HBF.out.size; omega))
              (HI5.out.below (below_regrown W5 d os) (Nat.le_refl _)) (by have := HBF.out.size; omega) (below_regrown W5 d os).size HPO.out HL.out (HWS.out.erase m).get j rfl hjl HVAR.out (HT.out.below (below_grow HBF.out d os) (by omega))
          have H1 := Lib.hid h1
          clear h1 hb5 hbf hin5 hown hF8 xx
          cases hX : explD p l ⟨v, e, j, ws.eraseIdx m⟩ <;> rw [hX] at H1 hwo2
          case false =>
            refine wp_region_qb (by kernel_rfl) (by kernel_rfl) ?_
            repeat go_big_quiet_step ((with_reducible exact Gives.quiet (H1.out _ _)))
            refine wpQuiet_nil ?_
            intro w6 hb6
            have hb := HB5.out.trans (hb6.mono HB5.out.size)
            have hF6 := heap_later HF.out hb z1
            have hZ6 : ∃ z : Array Value, z.size = 4 ∧ w6.heap[w.heap.size + 1]? = some (.cells z 73 (0, 0)) := by obtain ⟨z, hz, hz'⟩ := HZ.out; exact ⟨z, hz, heap_later hz' hb (by omega)⟩
            have hi6 := HOW2.out.kept (row := none) ⟨hb.os, hb.tape, hb.output, hb.size, fun k hk _ => hb.block k hk⟩ (.inr (by simp [Value.ownBlock]))
            have hb7 := HBW.out.trans (hb.mono HBW.out.size)
            have hs6 : w.heap.size + 2 ≤ w6.heap.size := by have := hb.size; omega
            clear hb hb6
            go_wp2
            go_roundw
            case rel => exact ⟨m, ws, _, by go_num, by omega, hwl, by simpa using hwo2, HWS.out, hF6, hZ6, hi6, hb7, hs6⟩
            case measure => simp [intOf]
          case true =>
            refine wp_region_qb (by kernel_rfl) (by kernel_rfl) ?_
            repeat go_big_quiet_step ((with_reducible exact Gives.quiet (H1.out _ _)))
            refine wpQuiet_nil ?_
            intro w6 hb6
            have hb := HB5.out.trans (hb6.mono HB5.out.size)
            have hF6 := heap_later HF.out hb z1
            have hZ6 : ∃ z : Array Value, z.size = 4 ∧ w6.heap[w.heap.size + 1]? = some (.cells z 73 (0, 0)) := by obtain ⟨z, hz, hz'⟩ := HZ.out; exact ⟨z, hz, heap_later hz' hb (by omega)⟩
            have hF8 := heap_later HF8.out hb6 (by omega)
            have ho6 := HOW.out.kept (row := none) ⟨hb6.os, hb6.tape, hb6.output, hb6.size, fun k hk _ => hb6.block k hk⟩ (.inr (by simp [Value.ownBlock]))
            have hb7 := HBW.out.trans (hb.mono HBW.out.size)
            have hs6 : w.heap.size + 2 ≤ w6.heap.size := by have := hb.size; omega
            have g0 : w6.cell? ⟨wr.heap.size, 0, none⟩ = some (.int .i64 v) := by rw [cell_of_row _ _ _ _ _ _ hF8]; rfl
            have g1 : w6.cell? ⟨wr.heap.size, 1, none⟩ = some (.int .i64 e) := by rw [cell_of_row _ _ _ _ _ _ hF8]; rfl
            have g2 : w6.cell? ⟨wr.heap.size, 2, none⟩ = some (.int .i64 j) := by rw [cell_of_row _ _ _ _ _ _ hF8]; rfl
            have g3 : w6.cell? ⟨wr.heap.size, 3, none⟩ = some (.slice (some ⟨g, 0, none⟩) (ws.length - 1) cp) := by rw [cell_of_row _ _ _ _ _ _ hF8]; rfl
            have d0 : w6.cell? ⟨w.heap.size, 0, none⟩ = some (.int .i64 v) := by rw [cell_of_row _ _ _ _ _ _ hF6]; rfl
            have d1 : w6.cell? ⟨w.heap.size, 1, none⟩ = some (.int .i64 e) := by rw [cell_of_row _ _ _ _ _ _ hF6]; rfl
            have d2 : w6.cell? ⟨w.heap.size, 2, none⟩ = some (.int .i64 j) := by rw [cell_of_row _ _ _ _ _ _ hF6]; rfl
            have d3 : w6.cell? ⟨w.heap.size, 3, none⟩ = some (.slice (some ⟨yb, yo, none⟩) ws.length yc) := by rw [cell_of_row _ _ _ _ _ _ hF6]; rfl
            have ff : ∀ i, w6.frozen? ⟨w.heap.size, i, none⟩ = false := fun i => by simp [World.frozen?, hF6]
            have ff0 := ff 0; have ff1 := ff 1; have ff2 := ff 2; have ff3 := ff 3
            have HO6 := Lib.hid ho6; have HF6 := Lib.hid hF6; have HB7 := Lib.hid hb7; have HZ6 := Lib.hid hZ6
            clear hb hb6 hF8 ho6 hF6 hb7 ff hZ6
            go_wp2
            go_roundw
            case rel =>
              refine ⟨m, ws.eraseIdx m, .slice (some ⟨g, 0, none⟩) (ws.length - 1) cp, by go_num, by omega, by omega, by simpa using hwo2, HWS.out.erase m, ?_, ?_, ?_, ?_, ?_⟩
              · simp only [World.setCell, Array.getElem?_modify, if_true, HF6.out, Option.map_some]; rfl
              · obtain ⟨z, hz, hz'⟩ := HZ6.out
                exact ⟨z, hz, (Below.heap_setCell _ _ _ _ (by show w.heap.size + 1 ≠ w.heap.size; omega)).trans ((Below.heap_setCell _ _ _ _ (by show w.heap.size + 1 ≠ w.heap.size; omega)).trans ((Below.heap_setCell _ _ _ _ (by show w.heap.size + 1 ≠ w.heap.size; omega)).trans ((Below.heap_setCell _ _ _ _ (by show w.heap.size + 1 ≠ w.heap.size; omega)).trans hz')))⟩
              · have hne : (Value.slice (some ⟨g, 0, none⟩) (ws.length - 1) cp).ownBlock ≠ some w.heap.size := by simp [Value.ownBlock]; omega
                rw [hel]; exact own_mono (ownsRow_setCell_other (ownsRow_setCell_other (ownsRow_setCell_other (ownsRow_setCell_other HO6.out hne _) hne _) hne _) hne _) (by omega)
              · exact (((HB7.out.setCell (Nat.le_refl _) _).setCell (Nat.le_refl _) _).setCell (Nat.le_refl _) _).setCell (Nat.le_refl _) _
              · simpa using hs6
            case measure => simp [intOf]
end Go.Proofs.YtdmmegmkdhinjaaGreatDoor

namespace Go.Proofs.YtdmmegmkdhinjaaGreatDoor
open Go Go.RowKit

theorem mem_elems {d v : Nat} : v ∈ elems d ↔ v < 64 ∧ d.testBit v = true := by
  unfold elems
  rw [List.mem_filter, List.mem_range]
theorem diff_bit (d v i : Nat) : (sDiff d (bitN v)).testBit i = (d.testBit i && !decide (v = i)) := by rw [sDiff_testBit, bitN_testBit]
theorem elems_diff (d v : Nat) : elems (sDiff d (bitN v)) = (elems d).filter fun i => !decide (v = i) := by
  unfold elems
  rw [List.filter_filter]
  apply List.filter_congr
  intro i _
  rw [diff_bit, Bool.and_comm]
theorem filter_one : ∀ {l : List Nat} {v : Nat}, l.Nodup → v ∈ l → (l.filter fun i => !decide (v = i)).length + 1 = l.length
  | [], _, _, h => by cases h
  | x :: xs, v, hn, h => by
    have hx := List.nodup_cons.1 hn
    by_cases hv : v = x
    · subst hv
      have : (xs.filter fun i => !decide (v = i)) = xs := List.filter_eq_self.2 fun i hi => by
        have : v ≠ i := fun e => hx.1 (e ▸ hi)
        simp [this]
      simp [this]
    · have hm : v ∈ xs := by
        rcases List.mem_cons.1 h with h | h
        · exact absurd h hv
        · exact h
      have := filter_one hx.2 hm
      simp only [List.filter_cons, hv, decide_false, Bool.not_false, if_true, List.length_cons]
      omega
theorem size_diff {d v : Nat} (h : v ∈ elems d) : sizeD (sDiff d (bitN v)) + 1 = sizeD d := by
  unfold sizeD
  rw [elems_diff]
  exact filter_one (elems_nodup d) h
theorem total_set : ∀ (f : List Nat) (x y : Nat), x < f.length → totalD (f.set x y) + sizeD (nget f x) = totalD f + sizeD y
  | [], _, _, h => by cases h
  | d :: ds, 0, y, _ => by
    unfold totalD nget
    simp
    omega
  | d :: ds, x + 1, y, h => by
    have := total_set ds x y (by simpa using h)
    unfold totalD nget at *
    simp at *
    omega
theorem size16 {d : Nat} (h : d < 65536) : sizeD d ≤ 16 := by
  unfold sizeD elems
  have : (List.range 64).filter d.testBit = (List.range 16).filter d.testBit := by
    rw [show (64 : Nat) = 16 + 48 from rfl, List.range_add, List.filter_append]
    have : ((List.range 48).map (16 + ·)).filter d.testBit = [] := by
      rw [List.filter_eq_nil_iff]
      intro i hi
      obtain ⟨j, _, rfl⟩ := List.mem_map.1 hi
      rw [Nat.testBit_lt_two_pow (Nat.lt_of_lt_of_le (show d < 2 ^ 16 from h) (Nat.pow_le_pow_right (by decide) (Nat.le_add_right 16 j)))]
      simp
    rw [this, List.append_nil]
  rw [this]
  exact Nat.le_trans (List.length_filter_le _ _) (by simp)
theorem total_le : ∀ (f : List Nat), (∀ i, nget f i < 65536) → totalD f ≤ 16 * f.length
  | [], _ => Nat.zero_le _
  | d :: ds, h => by
    have h0 : sizeD d ≤ 16 := size16 (h 0)
    have := total_le ds (fun i => h (i + 1))
    unfold totalD at *
    simp
    omega
theorem redD_length (p : Dp) (l : List Cut) (c : Cut) : ∀ (i : Nat) (xs : List Int), (redD p l c i xs).length ≤ xs.length
  | 0, _ => Nat.le_refl _
  | i + 1, xs => by
    rw [redD_succ]
    refine Nat.le_trans (redD_length p l c i _) ?_
    split
    · rw [List.length_eraseIdx]; split <;> omega
    · exact Nat.le_refl _
theorem reasonD_length (p : Dp) (l : List Cut) (c : Cut) : (reasonD p l c).why.length ≤ l.length := Nat.le_trans (redD_length p l c _ _) (whyK_length p l c l.length)
/-- What a propagation keeps. -/
structure Good (st : Sd) : Prop where
  f : Fok st.1
  fit : ∀ i, i < st.2.length → CFit (cget st.2 i)
  why : ∀ i, i < st.2.length → (cget st.2 i).why.length ≤ 128
  few : st.2.length + totalD st.1 ≤ 128
theorem Good.cut {st : Sd} (h : Good st) {p : Dp} {rs : Bool} {n i x v : Nat} (hx : iget (drget p.rules n).vars i = x) (hx8 : x < 8) (hv : v ∈ elems (nget st.1 x)) : Good (cutV p rs n i st v) := by
  unfold cutV
  simp only [hx, Int.toNat_natCast]
  split
  · exact h
  · have hlt := sDiff_lt (b := bitN v) (h.f.lt x)
    have ht := total_set st.1 x (sDiff (nget st.1 x) (bitN v)) (by rw [h.f.len]; exact hx8)
    have hsz := size_diff hv
    have hv16 := elems16 (h.f.lt x) hv
    cases rs
    · exact ⟨h.f.set x hlt, h.fit, h.why, by have := h.few; show st.2.length + totalD (st.1.set x _) ≤ 128; omega⟩
    · refine ⟨h.f.set x hlt, fun j hj => ?_, fun j hj => ?_, ?_⟩
      · show CFit (cget (st.2 ++ [_]) j)
        rw [cget_snoc]
        by_cases h1 : j < st.2.length
        · rw [if_pos h1]; exact h.fit j h1
        · have : j = st.2.length := by simp at hj; omega
          subst this
          rw [if_neg (by omega), if_pos rfl]
          exact ⟨x, v, rfl, hx8, rfl, hv16⟩
      · show (cget (st.2 ++ [_]) j).why.length ≤ 128
        rw [cget_snoc]
        by_cases h1 : j < st.2.length
        · rw [if_pos h1]; exact h.why j h1
        · have : j = st.2.length := by simp at hj; omega
          subst this
          rw [if_neg (by omega), if_pos rfl]
          have := reasonD_length p st.2 ⟨x, v, n, []⟩
          have := h.few
          omega
      · have := h.few
        show (st.2 ++ [_]).length + totalD (st.1.set x _) ≤ 128
        rw [List.length_append]
        simp
        omega
theorem cutV_bit {st : Sd} {p : Dp} {rs : Bool} {n i x v u : Nat} (hx : iget (drget p.rules n).vars i = x) (hxl : x < st.1.length) (hu : u ≠ v) : (nget (cutV p rs n i st v).1 x).testBit u = (nget st.1 x).testBit u := by
  unfold cutV
  simp only [hx, Int.toNat_natCast]
  split
  · rfl
  · show (nget (st.1.set x _) x).testBit u = _
    rw [nget_set, if_pos ⟨rfl, hxl⟩, diff_bit]
    simp [Ne.symm hu]
theorem Good.cuts {p : Dp} {rs : Bool} {n i x : Nat} (hx : iget (drget p.rules n).vars i = x) (hx8 : x < 8) : ∀ (vs : List Nat) {st : Sd}, Good st → vs.Nodup → (∀ v ∈ vs, v ∈ elems (nget st.1 x)) →
    Good (vs.foldl (cutV p rs n i) st) ∧ ∀ u, u ∉ vs → (nget (vs.foldl (cutV p rs n i) st).1 x).testBit u = (nget st.1 x).testBit u
  | [], st, h, _, _ => ⟨h, fun _ _ => rfl⟩
  | v :: vs, st, h, hn, hm => by
    have hnd := List.nodup_cons.1 hn
    have hc := h.cut (p := p) (rs := rs) (n := n) (i := i) hx hx8 (hm v (by simp))
    have hl : x < st.1.length := by rw [h.f.len]; exact hx8
    obtain ⟨h1, h2⟩ := Good.cuts hx hx8 vs hc hnd.2 (fun u hu => by
      have := mem_elems.1 (hm u (by simp [hu]))
      refine mem_elems.2 ⟨this.1, ?_⟩
      have hne : u ≠ v := fun e => hnd.1 (by rw [← e]; exact hu)
      rw [cutV_bit hx hl hne]
      exact this.2)
    refine ⟨h1, fun u hu => ?_⟩
    rw [List.foldl_cons, h2 u (fun e => hu (by simp [e])), cutV_bit hx hl (fun e => hu (by simp [e]))]
/-- At a value of the sweep. -/
theorem Good.at {p : Dp} {rs : Bool} {n i x : Nat} {st : Sd} (h : Good st) (hx : iget (drget p.rules n).vars i = x) (hx8 : x < 8) {pre rest : List Nat} {v : Nat} (hel : elems (nget st.1 x) = pre ++ v :: rest) :
    Good (pre.foldl (cutV p rs n i) st) ∧ v ∈ elems (nget (pre.foldl (cutV p rs n i) st).1 x) := by
  have hnd := elems_nodup (nget st.1 x)
  rw [hel] at hnd
  have hna := List.nodup_append.1 hnd
  obtain ⟨h1, h2⟩ := Good.cuts (p := p) (rs := rs) (n := n) (i := i) hx hx8 pre h hna.1 (fun u hu => by rw [hel]; simp [hu])
  refine ⟨h1, ?_⟩
  have hv : v ∈ elems (nget st.1 x) := by rw [hel]; simp
  have := mem_elems.1 hv
  refine mem_elems.2 ⟨this.1, ?_⟩
  rw [h2 v (fun e => hna.2.2 v e v (by simp) rfl)]
  exact this.2
theorem Good.sweep {p : Dp} {rs : Bool} {n i x : Nat} {st : Sd} (h : Good st) (hx : iget (drget p.rules n).vars i = x) (hx8 : x < 8) : Good (sweepD p rs n i st) := by
  unfold sweepD
  rw [hx, Int.toNat_natCast]
  exact (Good.cuts hx hx8 _ h (elems_nodup _) (fun _ hu => hu)).1
end Go.Proofs.YtdmmegmkdhinjaaGreatDoor
