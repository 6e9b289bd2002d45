/- Rows of cuts of the call's own: slices.Clone, slices.Grow, slices.Concat of two. -/
import Derived.Test.YtdmmegmkdhinjaaDoorBF
import Derived.Lib.AppendZeros
import Derived.Lib.SliceRun
namespace Go.Proofs.YtdmmegmkdhinjaaDoor
open Go Go.RowKit
attribute [local go_sem] cell_grow Oper.semAt_some

/-- A list of cells is a list of cuts. -/
def CCells (cs : List Value) (w : World) (B : Nat) (fs : List Cut) : Prop := cs.length = fs.length * 4 ∧ ∀ i, i < fs.length →
  cs[i * 4]? = some (.int .i64 (cget fs i).var) ∧ cs[i * 4 + 1]? = some (.int .i64 (cget fs i).value) ∧ cs[i * 4 + 2]? = some (.int .i64 (cget fs i).rule) ∧ ∃ yv, cs[i * 4 + 3]? = some yv ∧ Ints w B yv (cget fs i).why
theorem CCells.below {cs : List Value} {w w' : World} {B B' : Nat} {fs : List Cut} (h : CCells cs w B fs) (hb : Below B' w w') (hB : B ≤ B') : CCells cs w' B fs :=
  ⟨h.1, fun i hi => by obtain ⟨a, b, c, y, e, f⟩ := h.2 i hi; exact ⟨a, b, c, y, e, f.below hb hB⟩⟩
theorem CCells.mono {cs : List Value} {w : World} {B B' : Nat} {fs : List Cut} (h : CCells cs w B fs) (hB : B ≤ B') : CCells cs w B' fs :=
  ⟨h.1, fun i hi => by obtain ⟨a, b, c, y, e, f⟩ := h.2 i hi; exact ⟨a, b, c, y, e, f.mono hB⟩⟩
theorem cget_append (fs gs : List Cut) (i : Nat) : cget (fs ++ gs) i = if i < fs.length then cget fs i else cget gs (i - fs.length) := by
  unfold cget
  by_cases h : i < fs.length
  · rw [if_pos h, List.getElem?_append_left h]
  · rw [if_neg h, List.getElem?_append_right (by omega)]
theorem CCells.append {cs ds : List Value} {w : World} {B : Nat} {fs gs : List Cut} (h : CCells cs w B fs) (h' : CCells ds w B gs) : CCells (cs ++ ds) w B (fs ++ gs) := by
  have hl := h.1
  refine ⟨by rw [List.length_append, List.length_append, h.1, h'.1]; omega, fun i hi => ?_⟩
  rw [cget_append]
  by_cases hlt : i < fs.length
  · rw [if_pos hlt, List.getElem?_append_left (by omega), List.getElem?_append_left (by omega), List.getElem?_append_left (by omega), List.getElem?_append_left (by omega)]
    exact h.2 i hlt
  · rw [if_neg hlt, List.getElem?_append_right (by omega), List.getElem?_append_right (by omega), List.getElem?_append_right (by omega), List.getElem?_append_right (by omega), hl]
    have := h'.2 (i - fs.length) (by rw [List.length_append] at hi; omega)
    rw [show (i - fs.length) * 4 = i * 4 - fs.length * 4 by omega] at this
    rw [show i * 4 + 1 - fs.length * 4 = i * 4 - fs.length * 4 + 1 by omega, show i * 4 + 2 - fs.length * 4 = i * 4 - fs.length * 4 + 2 by omega, show i * 4 + 3 - fs.length * 4 = i * 4 - fs.length * 4 + 3 by omega]
    exact this
theorem CCells.one {cs : List Value} {w : World} {B : Nat} {fs : List Cut} (h : CCells cs w B fs) : ∀ u ∈ cs, u.oneCell' = true := by
  intro u hu
  obtain ⟨j, hj, rfl⟩ := List.mem_iff_getElem.1 hu
  obtain ⟨a, b, c, y, e, f⟩ := h.2 (j / 4) (by have := h.1; omega)
  have hj? : cs[j]? = some cs[j] := List.getElem?_eq_getElem hj
  have : j % 4 = 0 ∨ j % 4 = 1 ∨ j % 4 = 2 ∨ j % 4 = 3 := by omega
  rcases this with hm | hm | hm | hm
  · rw [show j / 4 * 4 = j by omega, hj?, Option.some.injEq] at a; rw [a]; rfl
  · rw [show j / 4 * 4 + 1 = j by omega, hj?, Option.some.injEq] at b; rw [b]; rfl
  · rw [show j / 4 * 4 + 2 = j by omega, hj?, Option.some.injEq] at c; rw [c]; rfl
  · rw [show j / 4 * 4 + 3 = j by omega, hj?, Option.some.injEq] at e
    obtain ⟨ya, yc, rfl⟩ := f.slice
    rw [e]; rfl
/-- A slice of cuts, its cells as a list. -/
theorem Cts.list {w : World} {B : Nat} {v : Value} {fs : List Cut} (h : Cts w B v fs) : ∃ c, Row w B 4 v fs.length c ∧ CCells ((List.range (fs.length * 4)).map c) w B fs ∧ ∀ j, j < fs.length * 4 → ((List.range (fs.length * 4)).map c)[j]? = some (c j) := by
  obtain ⟨c, hr, hc⟩ := h
  have key : ∀ j, j < fs.length * 4 → ((List.range (fs.length * 4)).map c)[j]? = some (c j) := fun j hj => by simp [hj]
  refine ⟨c, hr, ⟨by simp, fun i hi => ?_⟩, key⟩
  obtain ⟨h1, h2, h3, h5⟩ := hc i hi
  rw [key _ (by omega), key _ (by omega), key _ (by omega), key _ (by omega)]
  exact ⟨by rw [h1], by rw [h2], by rw [h3], _, rfl, h5⟩
/-- A row of cuts of the call's own. -/
theorem CCells.cts {cs : List Value} {w : World} {B base : Nat} {v : Value} {fs : List Cut} (h : CCells cs w B fs) (ho : w.ownsRow base 45 4 v fs.length cs) (hB : B ≤ w.heap.size) (hn : fs.length ≤ 140737488355328) : Cts w w.heap.size v fs := by
  refine ⟨fun i => cs[i]?.getD undef, ownsRow_row ho hn (fun i hi => ?_), fun i hi => ?_⟩
  · have : i < cs.length := by rw [h.1]; exact hi
    rw [List.getElem?_eq_getElem this]; rfl
  · obtain ⟨e1, e2, e3, yv, e5, e6⟩ := h.2 i hi
    simp only [e1, e2, e3, e5, Option.getD_some]
    exact ⟨trivial, trivial, trivial, e6.mono hB⟩
set_option maxRecDepth 100000 in
set_option maxHeartbeats 1000000 in
theorem clone_cuts (fs : List Cut) (v : Value) (w : World) {B : Nat} (h : Cts w B v fs) (hB : B ≤ w.heap.size) (hsm : fs.length ≤ 1000000) (h0 : 0 < fs.length) :
    Calls Tryd.prog 38 #[v] w fun e w' => ∃ g c cs, e = .returned (.slice (some ⟨g, 0, none⟩) fs.length c) ∧ w'.ownsRow w.heap.size 45 4 (.slice (some ⟨g, 0, none⟩) fs.length c) fs.length cs ∧ CCells cs w' B fs ∧ Below w.heap.size w w' := by
  obtain ⟨c, hr, hf, hc⟩ := h.list
  obtain ⟨_, a', c', hv, hnc, hcm, hrr⟩ := hr
  subst hv
  obtain ⟨b', off', rfl, hbB, hcell⟩ := hrr h0
  obtain ⟨i0, hi, hz0, hz1, hz2⟩ := info_parts infoC
  have q22 : ∀ (w : World) (a : Option Addr) (n c n' c' : Nat), (binOp .eql 40 (.slice a n c) (.slice none n' c')).run Tryd.prog w = .ok (.bool a.isNone) w := fun w a n c n' c' => Lib.run_eql_slice_nil w _ _ a n c n' c' Tryd.underlying40
  have HC := Lib.hid hcell; have HF := Lib.hid hf; have HCC := Lib.hid hc
  obtain ⟨cs, hcs⟩ : ∃ cs, cs = (List.range (fs.length * 4)).map c := ⟨_, rfl⟩
  rw [← hcs] at HF HCC
  have hcl : cs.length = fs.length * 4 := HF.out.1
  have HCL := Lib.hid hcl
  clear hrr hcell hf hc hcs hcl h
  go_enter Tryd.func38, Tryd.ntmps38
  go_wp2_with (at_builtin; refine wpList_append_own _ rfl _ _ 40 rfl w.heap.size 45 i0 (.agg #[.int .i64 0, .int .i64 0, .int .i64 0, .slice none 0 0]) 4 48 Tryd.underlying40 hi hz0 hz1 hz2 rfl (by decide) _ _ _ rfl (World.ownsRow_made w #[] 0 (Nat.le_refl _) (Nat.zero_le _) rfl) ⟨b', off', none⟩ fs.length c' cs rfl HCL.out ?qc2 ?qc3 ?qc4 ?qc5 (by simp) ?_)
  case qc2 =>
    intro j u hj
    have hjl : j < fs.length * 4 := by have := (List.getElem?_eq_some_iff.1 hj).1; rwa [HCL.out] at this
    rw [HCC.out j hjl] at hj
    cases hj
    rw [Addr.add_lit]
    exact ((Below.new1 w _).cell (p := ⟨b', off' + j, none⟩) (World.block_lt_of_cell? w ⟨b', off' + j, none⟩ (HC.out j (by omega)))).trans (HC.out j (by omega))
  case qc3 => exact HF.out.one
  case qc4 => unfold maxLen; omega
  case qc5 => omega
  intro v' w1 hown hgrow _
  have hb := (Below.new1 w (.cells #[] 45)).grown hgrow (by simp) (fun q hq => by simp [Value.ownBlock] at hq; omega)
  try simp only [Nat.zero_add, List.nil_append] at hown
  obtain ⟨g, cp, cur, rfl, _⟩ := own_some hown h0
  have HOW := Lib.hid hown; have HB := Lib.hid hb
  clear hgrow hown hb
  go_wp2
  go_ret
  exact ⟨_, _, _, rfl, HOW.out, HF.out.below HB.out hB, HB.out⟩
set_option maxRecDepth 100000 in
set_option maxHeartbeats 1000000 in
theorem grow_cuts (n : Nat) (w : World) (h0 : 0 < n) (hn : n ≤ 1000000) :
    Calls Tryd.prog 70 #[.slice none 0 0, .int .i64 n] w fun e w' => ∃ v', e = .returned v' ∧ w'.ownsRow w.heap.size 45 4 v' 0 [] ∧ Below w.heap.size w w' := by
  obtain ⟨i0, hi, hz0, hz1, hz2⟩ := info_parts infoC
  have happ := Lib.run_append_nil_zeros (P := Tryd.prog) w 40 3 40 45 i0 _ .i64 .i64 Tryd.underlying40 Tryd.underlying3 hi hz0 n h0 (by omega) (by omega) (by rw [hz2]; omega)
  generalize hcap : grownCap w n 0 45 = cap2 at happ
  have hcapge : n ≤ cap2 := by rw [← hcap]; exact grownCap_ge w _ 0 45
  have hcaple : cap2 ≤ maxLen := by rw [← hcap]; exact grownCap_le_maxLen w _ 0 45 (by unfold maxLen; omega)
  generalize hZ : (Builtin.zeroCells (Value.agg #[.int .i64 0, .int .i64 0, .int .i64 0, .slice none 0 0]).cells n ++ Builtin.zeroCells (Value.agg #[.int .i64 0, .int .i64 0, .int .i64 0, .slice none 0 0]).cells (cap2 - n)) = Z at happ
  have hZs : Z.size = cap2 * 4 := by rw [← hZ]; simp [size_zeroCells, Value.cells]; omega
  have hown : ((w.drew.alloc (.cells Z 45))).ownsRow w.heap.size 45 4 (.slice (some ⟨w.heap.size, 0, none⟩) 0 cap2) 0 [] := World.ownsRow_made w.drew Z cap2 (Nat.le_refl _) hcaple hZs
  have hbl : Below w.heap.size w (w.drew.alloc (.cells Z 45)) := (Below.drewn (Below.refl _ _)).alloc (Nat.le_refl _) _
  have HOW := Lib.hid hown; have HB := Lib.hid hbl
  have hci : (0 : Int) ≤ (n : Int) := by omega
  have hcj : (0 : Int) < (n : Int) := by omega
  clear hcap hZ hZs hown hbl
  go_enter Tryd.func70, Tryd.ntmps70
  go_wp2_with (at_builtin; refine Lib.wpList_append_run _ rfl _ _ _ _ rfl _ _ rfl rfl _ _ happ ?_)
  go_ret
  exact ⟨_, rfl, HOW.out, HB.out⟩
def sumL (a b k : Nat) : Nat := if k = 0 then 0 else if k = 1 then a else a + b
def catL {α : Type} (a b : List α) (k : Nat) : List α := if k = 0 then [] else if k = 1 then a else a ++ b
set_option maxRecDepth 100000 in
set_option maxHeartbeats 2000000 in
theorem concat_cuts (fs gs : List Cut) (v1 v2 : Value) (sb : Nat) (t : TypeId) (w : World) {B : Nat} (h1 : Cts w B v1 fs) (h2 : Cts w B v2 gs) (hs : w.heap[sb]? = some (.cells #[v1, v2] t (0, 0))) (hB : B ≤ w.heap.size) (h0 : 0 < fs.length) (hn1 : fs.length ≤ 1000) (hn2 : gs.length ≤ 1000) :
    Calls Tryd.prog 41 #[.slice (some ⟨sb, 0, none⟩) 2 2] w fun e w' => ∃ v', e = .returned v' ∧ Cts w' w'.heap.size v' (fs ++ gs) ∧ Below w.heap.size w w' := by
  obtain ⟨c1, hr1, hf1, hc1⟩ := h1.list
  obtain ⟨c2, hr2, hf2, hc2⟩ := h2.list
  obtain ⟨a1, x1, rfl⟩ := h1.slice
  obtain ⟨a2, x2, rfl⟩ := h2.slice
  obtain ⟨i0, hi, hz0, hz1, hz2⟩ := info_parts infoC
  obtain ⟨cs1, hcs1⟩ : ∃ cs, cs = (List.range (fs.length * 4)).map c1 := ⟨_, rfl⟩
  obtain ⟨cs2, hcs2⟩ : ∃ cs, cs = (List.range (gs.length * 4)).map c2 := ⟨_, rfl⟩
  rw [← hcs1] at hf1 hc1
  rw [← hcs2] at hf2 hc2
  have HR1 := Lib.hid hr1; have HF1 := Lib.hid hf1; have HC1 := Lib.hid hc1
  have HR2 := Lib.hid hr2; have HF2 := Lib.hid hf2; have HC2 := Lib.hid hc2; have HS := Lib.hid hs
  have s0 : w.cell? ⟨sb, 0, none⟩ = some (.slice a1 fs.length x1) := by rw [cell_of_row _ _ _ _ _ _ hs]; rfl
  have s1 : w.cell? ⟨sb, 1, none⟩ = some (.slice a2 gs.length x2) := by rw [cell_of_row _ _ _ _ _ _ hs]; rfl
  clear hr1 hf1 hc1 hr2 hf2 hc2 hcs1 hcs2 h1 h2 hs
  go_enter Tryd.func41, Tryd.ntmps41
  go_wp2_with fail
  go_loop [3, 11] (fun s kv => ∃ k : Nat, k ≤ 2 ∧ kv = .int .i64 k ∧ s = .int .i64 ((sumL fs.length gs.length k : Nat) : Int)) (fun _ kv => 2 - (intOf kv).toNat)
  case atStart => exact ⟨0, Nat.zero_le _, rfl, rfl⟩
  case round =>
    obtain ⟨k, hk, rfl, rfl⟩ := hrel
    have : k = 0 ∨ k = 1 ∨ k = 2 := by omega
    rcases this with rfl | rfl | rfl
    · rw [show sumL fs.length gs.length 0 = 0 from rfl]
      have hsi : ¬ ((fs.length : Nat) : Int) < 0 := by omega
      go_wp2
      go_round
      case rel => exact ⟨1, by omega, by go_num, by go_num⟩
      case measure => decide
    · rw [show sumL fs.length gs.length 1 = fs.length from rfl]
      have hsi : ¬ ((fs.length : Nat) : Int) + ((gs.length : Nat) : Int) < 0 := by omega
      go_wp2
      go_round
      case rel => exact ⟨2, by omega, by go_num, by rw [show sumL fs.length gs.length 2 = fs.length + gs.length from rfl]; go_num⟩
      case measure => decide
    · rw [show sumL fs.length gs.length 2 = fs.length + gs.length from rfl]
      have hgf := grow_cuts (fs.length + gs.length) w (by omega) (by omega)
      rw [show ((fs.length + gs.length : Nat) : Int) = (fs.length : Int) + (gs.length : Int) by omega] at hgf
      have HG := Lib.hid hgf
      clear hgf
      go_wp2_with fail
      refine HG.out.mono ?_
      rintro e w1 ⟨gv, rfl, hown, hb1⟩
      obtain ⟨ga, gc, rfl⟩ := own_form hown
      have HOW := Lib.hid hown; have HB1 := Lib.hid hb1
      clear hown hb1 HG
      go_wp2_with fail
      go_loopw [6, 27] (fun v kv wr => ∃ k : Nat, k ≤ 2 ∧ kv = .int .i64 k ∧ wr.ownsRow w.heap.size 45 4 v (sumL fs.length gs.length k) (catL cs1 cs2 k) ∧ Below w.heap.size w wr) (fun _ kv _ => 2 - (intOf kv).toNat)
      case atStart => exact ⟨0, Nat.zero_le _, rfl, HOW.out, HB1.out⟩
      case round =>
        clear HOW HB1
        obtain ⟨k, hk, rfl, hown, hb⟩ := hrel
        have zs : sb < w.heap.size := (Array.getElem?_eq_some_iff.1 HS.out).1
        have t0 : wr.cell? ⟨sb, 0, none⟩ = some (.slice a1 fs.length x1) := (hb.cell (p := ⟨sb, 0, none⟩) zs).trans s0
        have t1 : wr.cell? ⟨sb, 1, none⟩ = some (.slice a2 gs.length x2) := (hb.cell (p := ⟨sb, 1, none⟩) zs).trans s1
        have HOW := Lib.hid hown; have HB := Lib.hid hb
        clear hown hb
        have : k = 0 ∨ k = 1 ∨ k = 2 := by omega
        rcases this with rfl | rfl | rfl
        · go_wp2_with (at_builtin; refine wpList_append_row rfl _ _ 40 rfl w.heap.size 45 i0 _ 4 48 Tryd.underlying40 hi hz0 hz1 hz2 rfl (by decide) _ _ _ rfl HOW.out (.slice a1 fs.length x1) fs.length c1 B rfl (HR1.out.below HB.out hB) cs1 HF1.out.1 HC1.out HF1.out.one ?c3 ?c4 HB.out.size ?_)
          case c3 => rw [show sumL fs.length gs.length 0 = 0 from rfl]; unfold maxLen; omega
          case c4 => rw [show sumL fs.length gs.length 0 = 0 from rfl]; omega
          intro v' w2 hown2 hgrow2 _
          have hb2 := HB.out.grown hgrow2 HB.out.size (fun q hq => (HOW.out.lt q hq).1)
          rw [show sumL fs.length gs.length 0 + fs.length = sumL fs.length gs.length 1 from Nat.zero_add _, show catL cs1 cs2 0 ++ cs1 = catL cs1 cs2 1 from rfl] at hown2
          have HO2 := Lib.hid hown2; have HB2 := Lib.hid hb2
          clear hown2 hgrow2 hb2 t0 t1
          go_wp2
          go_roundw
          case rel => exact ⟨1, by omega, by go_num, HO2.out, HB2.out⟩
          case measure => decide
        · go_wp2_with (at_builtin; refine wpList_append_row rfl _ _ 40 rfl w.heap.size 45 i0 _ 4 48 Tryd.underlying40 hi hz0 hz1 hz2 rfl (by decide) _ _ _ rfl HOW.out (.slice a2 gs.length x2) gs.length c2 B rfl (HR2.out.below HB.out hB) cs2 HF2.out.1 HC2.out HF2.out.one ?c3 ?c4 HB.out.size ?_)
          case c3 => rw [show sumL fs.length gs.length 1 = fs.length from rfl]; unfold maxLen; omega
          case c4 => rw [show sumL fs.length gs.length 1 = fs.length from rfl]; omega
          intro v' w2 hown2 hgrow2 _
          have hb2 := HB.out.grown hgrow2 HB.out.size (fun q hq => (HOW.out.lt q hq).1)
          rw [show sumL fs.length gs.length 1 + gs.length = sumL fs.length gs.length 2 from rfl, show catL cs1 cs2 1 ++ cs2 = catL cs1 cs2 2 from rfl] at hown2
          have HO2 := Lib.hid hown2; have HB2 := Lib.hid hb2
          clear hown2 hgrow2 hb2 t0 t1
          go_wp2
          go_roundw
          case rel => exact ⟨2, by omega, by go_num, HO2.out, HB2.out⟩
          case measure => decide
        · have hfc : CCells (cs1 ++ cs2) wr B (fs ++ gs) := (HF1.out.below HB.out hB).append (HF2.out.below HB.out hB)
          have how : wr.ownsRow w.heap.size 45 4 u6 (fs ++ gs).length (cs1 ++ cs2) := by rw [List.length_append]; exact HOW.out
          have hfin := hfc.cts how (Nat.le_trans hB HB.out.size) (by rw [List.length_append]; omega)
          have HFIN := Lib.hid hfin
          clear hfc how hfin t0 t1
          go_wp2
          go_ret
          exact ⟨_, rfl, HFIN.out, HB.out⟩
theorem take_set_lastC {l : List Cut} {i : Nat} (hi : i < l.length) (x : Cut) : (l.take (i + 1)).set i x = l.take i ++ [x] := by
  rw [List.take_succ_eq_append_getElem hi, List.set_append_right _ _ (by simp; omega)]
  simp [Nat.min_eq_left (Nat.le_of_lt hi)]
theorem cget_set (fs : List Cut) (i : Nat) (x : Cut) (j : Nat) (hi : i < fs.length) : cget (fs.set i x) j = if j = i then x else cget fs j := by
  unfold cget
  rw [List.getElem?_set]
  by_cases h : i = j
  · subst h; simp [hi]
  · rw [if_neg h, if_neg (Ne.symm h)]
/-- The numbers of a cut laid anew. -/
theorem CCells.setWhy {cs : List Value} {w : World} {B : Nat} {fs : List Cut} (h : CCells cs w B fs) {i : Nat} (hi : i < fs.length) {yv : Value} {why : List Int} (hy : Ints w B yv why) : CCells (cs.set (i * 4 + 3) yv) w B (fs.set i { cget fs i with why := why }) := by
  have hl := h.1
  refine ⟨by rw [List.length_set, List.length_set]; exact hl, fun j hj => ?_⟩
  rw [List.length_set] at hj
  rw [cget_set _ _ _ _ hi]
  obtain ⟨a, b, c, y, e, f⟩ := h.2 j hj
  rw [List.getElem?_set_ne (show i * 4 + 3 ≠ j * 4 by omega), List.getElem?_set_ne (show i * 4 + 3 ≠ j * 4 + 1 by omega), List.getElem?_set_ne (show i * 4 + 3 ≠ j * 4 + 2 by omega)]
  by_cases hji : j = i
  · subst hji
    rw [if_pos rfl, List.getElem?_set_self (by omega)]
    exact ⟨a, b, c, yv, rfl, hy⟩
  · rw [if_neg hji, List.getElem?_set_ne (show i * 4 + 3 ≠ j * 4 + 3 by omega)]
    exact ⟨a, b, c, y, e, f⟩
/-- One cut of a slice of cuts. -/
theorem Cts.one {w : World} {B : Nat} {b off n c : Nat} {fs : List Cut} (h : Cts w B (.slice (some ⟨b, off, none⟩) n c) fs) {i : Nat} (hi : i < fs.length) : Cts w B (.slice (some ⟨b, off + i * 4, none⟩) 1 (c - i)) [cget fs i] := by
  obtain ⟨cf, ⟨hn, a', c', hv, hnc, hcm, hr⟩, hc⟩ := h
  cases hv
  obtain ⟨b', o', hae, hb, hcell⟩ := hr (by omega)
  cases hae
  refine ⟨fun j => cf (i * 4 + j), ⟨by show 1 ≤ _; decide, _, _, rfl, by show 1 ≤ _; omega, by omega, fun _ => ⟨_, _, rfl, hb, fun j hj => ?_⟩⟩, fun j hj => ?_⟩
  · rw [Nat.add_assoc]
    exact hcell (i * 4 + j) (by have : j < 1 * 4 := hj; omega)
  · have : j = 0 := by have : j < 1 := hj; omega
    subst this
    exact hc i hi
end Go.Proofs.YtdmmegmkdhinjaaDoor
