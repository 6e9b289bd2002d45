/- The small functions of the law SetsSound. -/
import Derived.Test.YtilbbnjfaoldoaaDoorPlainI
import Derived.Test.YtilbbnjfaoldoaaDoorLawB
namespace Go.Proofs.YtilbbnjfaoldoaaDoor
open Go Go.RowKit
attribute [local go_sem] cell_grow u64_sAnd u64_sOr u64_sDiff sDiff_all zeqI zneI sAnd_bit_zero sAnd_bit_zeroN sAnd_bit_nonzero rowOf_grow rowOk_grow rowOf_alloc rowOk_alloc Oper.semAt_some

set_option maxRecDepth 100000 in
set_option maxHeartbeats 1000000 in
theorem clone_bounds (b : List Bnd) (v : Value) (w : World) {B : Nat} (h : Bnds w B v b) (hsm : b.length ≤ 1000) (h0 : 0 < b.length) :
    Calls Tryd.prog 42 #[v] w fun e w' => ∃ g c, e = .returned (.slice (some ⟨g, 0, none⟩) b.length c) ∧ w'.ownsRow w.heap.size 67 2 (.slice (some ⟨g, 0, none⟩) b.length c) b.length (bCells b) ∧ Below w.heap.size w w' := by
  obtain ⟨_, a', c', hv, hnc, hcm, hrr⟩ := h
  subst hv
  obtain ⟨b', off', rfl, hbB, hcell⟩ := hrr h0
  obtain ⟨i0, hi, hz0, hz1, hz2⟩ := info_parts Tryd.info67
  have q22 : ∀ (w : World) (a : Option Addr) (n c n' c' : Nat), (binOp .eql 22 (.slice a n c) (.slice none n' c')).run Tryd.prog w = .ok (.bool a.isNone) w := fun w a n c n' c' => Lib.run_eql_slice_nil w _ _ a n c n' c' Tryd.underlying22
  have HC := Lib.hid hcell
  clear hrr hcell
  go_enter Tryd.func42, Tryd.ntmps42
  go_wp2_with (at_builtin; refine wpList_append_own _ rfl _ _ 22 rfl w.heap.size 67 i0 (.agg #[.int .u64 0, .int .u64 0]) 2 16 Tryd.underlying22 hi hz0 hz1 hz2 rfl (by decide) _ _ _ rfl (World.ownsRow_made w #[] 0 (Nat.le_refl _) (Nat.zero_le _) rfl) ⟨b', off', none⟩ b.length c' (bCells b) rfl (bCells_length b) ?qc2 ?qc3 ?qc4 ?qc5 (by simp) ?_)
  case qc2 =>
    intro j u hj
    have hjl : j < b.length * 2 := by have := (List.getElem?_eq_some_iff.1 hj).1; rwa [bCells_length] at this
    rw [bCells_get b j hjl] at hj
    cases hj
    rw [Addr.add_lit]
    exact ((Below.new1 w _).cell (p := ⟨b', off' + j, none⟩) (World.block_lt_of_cell? w ⟨b', off' + j, none⟩ (HC.out j (by omega)))).trans (HC.out j (by omega))
  case qc3 => exact bCells_one b
  case qc4 => unfold maxLen; omega
  case qc5 => omega
  intro v' w1 hown hgrow _
  have hb := (Below.new1 w (.cells #[] 67)).grown hgrow (by simp) (fun q hq => by simp [Value.ownBlock] at hq; omega)
  try simp only [Nat.zero_add, List.nil_append] at hown
  obtain ⟨g, cp, cur, rfl, _⟩ := own_some hown h0
  have HOW := Lib.hid hown; have HB := Lib.hid hb
  clear hgrow hown hb
  go_wp2
  go_ret
  exact ⟨_, _, rfl, HOW.out, HB.out⟩
theorem Tryd.infoU : (Tryd.prog.info? 65).map (fun i => (i.zero, i.size, i.bytes)) = some (some (.int .u64 0), 1, 8) := by kernel_rfl
set_option maxRecDepth 100000 in
set_option maxHeartbeats 1000000 in
theorem clone_us (b : List Nat) (v : Value) (w : World) {B : Nat} (h : Us w B v b) (hsm : b.length ≤ 1000) (h0 : 0 < b.length) :
    Calls Tryd.prog 83 #[v] w fun e w' => ∃ g c, e = .returned (.slice (some ⟨g, 0, none⟩) b.length c) ∧ w'.ownsRow w.heap.size 65 1 (.slice (some ⟨g, 0, none⟩) b.length c) b.length (natsV b) ∧ Below w.heap.size w w' := by
  obtain ⟨_, a', c', hv, hnc, hcm, hrr⟩ := h
  subst hv
  obtain ⟨b', off', rfl, hbB, hcell⟩ := hrr h0
  obtain ⟨i0, hi, hz0, hz1, hz2⟩ := info_parts Tryd.infoU
  have q22 : ∀ (w : World) (a : Option Addr) (n c n' c' : Nat), (binOp .eql 26 (.slice a n c) (.slice none n' c')).run Tryd.prog w = .ok (.bool a.isNone) w := fun w a n c n' c' => Lib.run_eql_slice_nil w _ _ a n c n' c' Tryd.underlying26
  have HC := Lib.hid hcell
  clear hrr hcell
  go_enter Tryd.func83, Tryd.ntmps83
  go_wp2_with (at_builtin; refine wpList_append_own _ rfl _ _ 26 rfl w.heap.size 65 i0 (.int .u64 0) 1 8 Tryd.underlying26 hi hz0 hz1 hz2 rfl (by decide) _ _ _ rfl (World.ownsRow_made w #[] 0 (Nat.le_refl _) (Nat.zero_le _) rfl) ⟨b', off', none⟩ b.length c' (natsV b) rfl (by rw [natsV_length, Nat.mul_one]) ?qc2 ?qc3 ?qc4 ?qc5 (by simp) ?_)
  case qc2 =>
    intro j u hj
    have hjl : j < b.length := by have := (List.getElem?_eq_some_iff.1 hj).1; rwa [natsV_length] at this
    rw [natsV_get b j hjl] at hj
    cases hj
    try rw [Addr.add_lit]
    exact ((Below.new1 w _).cell (p := ⟨b', off' + j, none⟩) (World.block_lt_of_cell? w ⟨b', off' + j, none⟩ (HC.out j (by omega)))).trans (HC.out j (by omega))
  case qc3 => exact natsV_one b
  case qc4 => unfold maxLen; omega
  case qc5 => omega
  intro v' w1 hown hgrow _
  have hb := (Below.new1 w (.cells #[] 65)).grown hgrow (by simp) (fun q hq => by simp [Value.ownBlock] at hq; omega)
  try simp only [Nat.zero_add, List.nil_append] at hown
  obtain ⟨g, cp, cur, rfl, _⟩ := own_some hown h0
  have HOW := Lib.hid hown; have HB := Lib.hid hb
  clear hgrow hown hb
  go_wp2
  go_ret
  exact ⟨_, _, rfl, HOW.out, HB.out⟩
/-- Whether sets lie between bounds. -/
def betwAt (b : List Bnd) (l : List Nat) (i : Nat) : Bool := (sDiff (bget b i).inn (nget l i) == 0) && (sDiff (nget l i) (bget b i).can == 0)
def betwB (b : List Bnd) (l : List Nat) : Bool := (List.range b.length).all (betwAt b l)
theorem betwB_yes {b : List Bnd} {l : List Nat} (h : ∀ i, i < b.length → betwAt b l i = true) : betwB b l = true := by unfold betwB; rw [List.all_eq_true]; exact fun i hi => h i (List.mem_range.1 hi)
theorem betwB_no {b : List Bnd} {l : List Nat} {k : Nat} (hk : k < b.length) (h : betwAt b l k = false) : betwB b l = false := by
  unfold betwB
  rw [Bool.eq_false_iff]; intro hc
  have := List.all_eq_true.1 hc k (List.mem_range.2 hk)
  rw [h] at this; cases this
set_option maxRecDepth 100000 in
set_option maxHeartbeats 1000000 in
theorem between_any (b : List Bnd) (l : List Nat) (bv lv : Value) (w : World) {B : Nat} (hb : Bnds w B bv b) (hl : Us w B lv l) (hB : B ≤ w.heap.size) (hlen : b.length ≤ l.length) (hub : U64s b) (hul : ∀ s ∈ l, U64 s) :
    Gives Tryd.prog 47 #[bv, lv] w (.bool (betwB b l)) := by
  unfold Gives
  have HBV := Lib.hid hb; have HLV := Lib.hid hl; have HUB := Lib.hid hub; have HUL := Lib.hid hul
  have hbl := hb.1
  have hll := hl.1
  obtain ⟨ba, bc, rfl⟩ := hb.slice
  obtain ⟨la, lc, rfl⟩ := hl.slice
  clear hb hl hub hul
  go_enter Tryd.func47, Tryd.ntmps47
  go_wp2_with fail
  go_loopw [9] (fun kv wr => ∃ k : Nat, k ≤ b.length ∧ kv = .int .i64 k ∧ (∀ j, j < k → betwAt b l j = true) ∧ Below w.heap.size w wr) (fun kv _ => b.length - (intOf kv).toNat)
  case atStart => exact ⟨0, Nat.zero_le _, rfl, fun j hj => absurd hj (Nat.not_lt_zero _), Below.refl _ _⟩
  case round =>
    obtain ⟨k, hk, rfl, hall, hb⟩ := hrel
    have HALL := Lib.hid hall; have HB := Lib.hid hb
    by_cases hlt : k < b.length
    · obtain ⟨_, a1, c1, hae, _, _, hr1⟩ := HBV.out.below hb hB
      cases hae
      obtain ⟨b1, o1, rfl, hb1, hc1⟩ := hr1 (by omega)
      obtain ⟨_, a2, c2, hae, _, _, hr2⟩ := HLV.out.below hb hB
      cases hae
      obtain ⟨b2, o2, rfl, hb2, hc2⟩ := hr2 (by omega)
      have q0 : wr.cell? ⟨b1, o1 + k * 2, none⟩ = some (.int .u64 ((bget b k).inn : Nat)) := by rw [hc1 _ (by omega), bcellAt_inn]
      have q1 : wr.cell? ⟨b1, o1 + k * 2 + 1, none⟩ = some (.int .u64 ((bget b k).can : Nat)) := by rw [← bcellAt_can]; exact hc1 (k * 2 + 1) (by omega)
      have q2 : wr.cell? ⟨b2, o2 + k, none⟩ = some (.int .u64 ((nget l k : Nat) : Int)) := hc2 k (by omega)
      have z1 : b1 < wr.heap.size := by have := hb.size; omega
      have z2 : b2 < wr.heap.size := by have := hb.size; omega
      have hlk : k < l.length := by omega
      have hu1 := (HUB.out.get k).1
      have hu2 := (HUB.out.get k).2
      have hu3 : U64 (nget l k) := HUL.out _ (by unfold nget; rw [List.getElem?_eq_getElem hlk]; exact List.getElem_mem hlk)
      obtain ⟨x, hx⟩ : ∃ x, x = (bget b k).inn := ⟨_, rfl⟩
      obtain ⟨y, hy⟩ : ∃ y, y = (bget b k).can := ⟨_, rfl⟩
      obtain ⟨z, hz⟩ : ∃ z, z = nget l k := ⟨_, rfl⟩
      have hat : betwAt b l k = ((sDiff x z == 0) && (sDiff z y == 0)) := by rw [hx, hy, hz]; rfl
      rw [← hx] at q0 hu1
      rw [← hy] at q1 hu2
      rw [← hz] at q2 hu3
      have HAT := Lib.hid hat
      clear hr1 hc1 hr2 hc2 hall hb hx hy hz hat
      go_upto_region 4 with fail
      refine abs_wp (fun Z => Z.cell? ⟨wr.heap.size, 0, none⟩ = some (.int .u64 (x : Nat)) ∧ Z.cell? ⟨wr.heap.size, 1, none⟩ = some (.int .u64 (y : Nat)) ∧ Z.cell? ⟨b2, o2 + k, none⟩ = some (.int .u64 (z : Nat)) ∧ Below wr.heap.size wr Z ∧ wr.heap.size < Z.heap.size)
        ⟨by rw [cell_of_row _ _ _ _ _ _ (heap_new0 wr _)]; rfl, by rw [cell_of_row _ _ _ _ _ _ (heap_new0 wr _)]; rfl, ((Below.new1 wr _).cell (p := ⟨b2, _, none⟩) z2).trans q2, Below.new1 _ _, by simp⟩ ?_
      clear q0 q1 q2
      rintro W ⟨q0, q1, q2, hbW, zW⟩
      have z3 : b2 < W.heap.size := by omega
      have HBW := Lib.hid (HB.out.trans (hbW.mono HB.out.size))
      clear hbW
      cases h1 : (sDiff x z == 0)
      case false =>
        have e1 : (((sDiff x z : Nat) : Int) != 0) = true := by have : ¬ sDiff x z = 0 := by simpa using h1
                                                                rw [bne_iff_ne]; omega
        have HN : Hid (betwB b l = false) := Lib.hid (betwB_no hlt (by rw [HAT.out, h1]; rfl))
        clear h1
        refine wp_region_qb (by kernel_rfl) (by kernel_rfl) ?_
        repeat go_big_quiet_step (fail)
        refine wpQuiet_nil ?_
        intro w4 hb4
        have HB4 := Lib.hid (HBW.out.trans (hb4.mono HBW.out.size))
        clear hb4
        go_wp2
        go_ret
        exact ⟨by rw [HN.out]; rfl, HB4.out⟩
      case true =>
        have e1 : (((sDiff x z : Nat) : Int) != 0) = false := by have : sDiff x z = 0 := by simpa using h1
                                                                 rw [this]; rfl
        cases h2 : (sDiff z y == 0)
        case false =>
          have e2 : (((sDiff z y : Nat) : Int) != 0) = true := by have : ¬ sDiff z y = 0 := by simpa using h2
                                                                  rw [bne_iff_ne]; omega
          have HN : Hid (betwB b l = false) := Lib.hid (betwB_no hlt (by rw [HAT.out, h1, h2]; rfl))
          clear h1 h2
          refine wp_region_qb (by kernel_rfl) (by kernel_rfl) ?_
          repeat go_big_quiet_step (fail)
          refine wpQuiet_nil ?_
          intro w4 hb4
          have HB4 := Lib.hid (HBW.out.trans (hb4.mono HBW.out.size))
          clear hb4
          go_wp2
          go_ret
          exact ⟨by rw [HN.out]; rfl, HB4.out⟩
        case true =>
          have e2 : (((sDiff z y : Nat) : Int) != 0) = false := by have : sDiff z y = 0 := by simpa using h2
                                                                   rw [this]; rfl
          have HY : Hid (betwAt b l k = true) := Lib.hid (by rw [HAT.out, h1, h2]; rfl)
          clear h1 h2
          refine wp_region_qb (by kernel_rfl) (by kernel_rfl) ?_
          repeat go_big_quiet_step (fail)
          refine wpQuiet_nil ?_
          intro w4 hb4
          have HB4 := Lib.hid (HBW.out.trans (hb4.mono HBW.out.size))
          clear hb4
          go_wp2
          go_roundw
          case rel => exact ⟨k + 1, by omega, by go_num, fun j hj => if h : j = k then h ▸ HY.out else HALL.out j (by omega), HB4.out⟩
          case measure => simp [intOf]; omega
    · have hk2 : k = b.length := by omega
      subst hk2
      have HY := Lib.hid (betwB_yes hall)
      clear hall hb
      go_wp2
      go_ret
      exact ⟨by rw [HY.out]; rfl, HB.out⟩
end Go.Proofs.YtilbbnjfaoldoaaDoor
