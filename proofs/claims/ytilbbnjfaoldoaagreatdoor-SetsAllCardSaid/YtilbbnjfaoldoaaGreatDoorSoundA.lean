/- The small functions of the law SetsSound. -/
import Derived.Test.YtilbbnjfaoldoaaGreatDoorPlainI
import Derived.Test.YtilbbnjfaoldoaaGreatDoorLawB
namespace Go.Proofs.YtilbbnjfaoldoaaGreatDoor
open Go Go.RowKit
attribute [local go_sem] cell_grow u64_sAnd u64_sOr u64_sDiff sDiff_all zeqI zneI sAnd_bit_zero sAnd_bit_zeroN sAnd_bit_nonzero rowOf_grow rowOk_grow rowOf_alloc rowOk_alloc Oper.semAt_some

set_option maxRecDepth 100000 in
set_option maxHeartbeats 1000000 in
theorem clone_bounds (b : List Bnd) (v : Value) (w : World) {B : Nat} (h : Bnds w B v b) (hsm : b.length ≤ 1000) (h0 : 0 < b.length) :
    Calls Tryz.prog 52 #[v] w fun e w' => ∃ g c, e = .returned (.slice (some ⟨g, 0, none⟩) b.length c) ∧ w'.ownsRow w.heap.size 47 2 (.slice (some ⟨g, 0, none⟩) b.length c) b.length (bCells b) ∧ Below w.heap.size w w' := by
  obtain ⟨_, a', c', hv, hnc, hcm, hrr⟩ := h
  subst hv
  obtain ⟨b', off', rfl, hbB, hcell⟩ := hrr h0
  obtain ⟨i0, hi, hz0, hz1, hz2⟩ := info_parts Tryz.info67
  have q22 : ∀ (w : World) (a : Option Addr) (n c n' c' : Nat), (binOp .eql 22 (.slice a n c) (.slice none n' c')).run Tryz.prog w = .ok (.bool a.isNone) w := fun w a n c n' c' => Lib.run_eql_slice_nil w _ _ a n c n' c' Tryz.underlying22
  have HC := Lib.hid hcell
  clear hrr hcell
  go_enter Tryz.func52, Tryz.ntmps52
  go_wp2_with (at_builtin; refine wpList_append_own _ rfl _ _ 22 rfl w.heap.size 47 i0 (.agg #[.int .u64 0, .int .u64 0]) 2 16 Tryz.underlying22 hi hz0 hz1 hz2 rfl (by decide) _ _ _ rfl (World.ownsRow_made w #[] 0 (Nat.le_refl _) (Nat.zero_le _) rfl) ⟨b', off', none⟩ b.length c' (bCells b) rfl (bCells_length b) ?qc2 ?qc3 ?qc4 ?qc5 (by simp) ?_)
  case qc2 =>
    intro j u hj
    have hjl : j < b.length * 2 := by have := (List.getElem?_eq_some_iff.1 hj).1; rwa [bCells_length] at this
    rw [bCells_get b j hjl] at hj
    cases hj
    rw [Addr.add_lit]
    exact ((Below.new1 w _).cell (p := ⟨b', off' + j, none⟩) (World.block_lt_of_cell? w ⟨b', off' + j, none⟩ (HC.out j (by omega)))).trans (HC.out j (by omega))
  case qc3 => exact bCells_one b
  case qc4 => unfold maxLen; omega
  case qc5 => omega
  intro v' w1 hown hgrow _
  have hb := (Below.new1 w (.cells #[] 47)).grown hgrow (by simp) (fun q hq => by simp [Value.ownBlock] at hq; omega)
  try simp only [Nat.zero_add, List.nil_append] at hown
  obtain ⟨g, cp, cur, rfl, _⟩ := own_some hown h0
  have HOW := Lib.hid hown; have HB := Lib.hid hb
  clear hgrow hown hb
  go_wp2
  go_ret
  exact ⟨_, _, rfl, HOW.out, HB.out⟩
theorem Tryz.infoU : (Tryz.prog.info? 38).map (fun i => (i.zero, i.size, i.bytes)) = some (some (.int .u64 0), 1, 8) := by kernel_rfl
set_option maxRecDepth 100000 in
set_option maxHeartbeats 1000000 in
theorem clone_us (b : List Nat) (v : Value) (w : World) {B : Nat} (h : Us w B v b) (hsm : b.length ≤ 1000) (h0 : 0 < b.length) :
    Calls Tryz.prog 30 #[v] w fun e w' => ∃ g c, e = .returned (.slice (some ⟨g, 0, none⟩) b.length c) ∧ w'.ownsRow w.heap.size 38 1 (.slice (some ⟨g, 0, none⟩) b.length c) b.length (natsV b) ∧ Below w.heap.size w w' := by
  obtain ⟨_, a', c', hv, hnc, hcm, hrr⟩ := h
  subst hv
  obtain ⟨b', off', rfl, hbB, hcell⟩ := hrr h0
  obtain ⟨i0, hi, hz0, hz1, hz2⟩ := info_parts Tryz.infoU
  have q22 : ∀ (w : World) (a : Option Addr) (n c n' c' : Nat), (binOp .eql 35 (.slice a n c) (.slice none n' c')).run Tryz.prog w = .ok (.bool a.isNone) w := fun w a n c n' c' => Lib.run_eql_slice_nil w _ _ a n c n' c' Tryz.underlying35
  have HC := Lib.hid hcell
  clear hrr hcell
  go_enter Tryz.func30, Tryz.ntmps30
  go_wp2_with (at_builtin; refine wpList_append_own _ rfl _ _ 35 rfl w.heap.size 38 i0 (.int .u64 0) 1 8 Tryz.underlying35 hi hz0 hz1 hz2 rfl (by decide) _ _ _ rfl (World.ownsRow_made w #[] 0 (Nat.le_refl _) (Nat.zero_le _) rfl) ⟨b', off', none⟩ b.length c' (natsV b) rfl (by rw [natsV_length, Nat.mul_one]) ?qc2 ?qc3 ?qc4 ?qc5 (by simp) ?_)
  case qc2 =>
    intro j u hj
    have hjl : j < b.length := by have := (List.getElem?_eq_some_iff.1 hj).1; rwa [natsV_length] at this
    rw [natsV_get b j hjl] at hj
    cases hj
    try rw [Addr.add_lit]
    exact ((Below.new1 w _).cell (p := ⟨b', off' + j, none⟩) (World.block_lt_of_cell? w ⟨b', off' + j, none⟩ (HC.out j (by omega)))).trans (HC.out j (by omega))
  case qc3 => exact natsV_one b
  case qc4 => unfold maxLen; omega
  case qc5 => omega
  intro v' w1 hown hgrow _
  have hb := (Below.new1 w (.cells #[] 38)).grown hgrow (by simp) (fun q hq => by simp [Value.ownBlock] at hq; omega)
  try simp only [Nat.zero_add, List.nil_append] at hown
  obtain ⟨g, cp, cur, rfl, _⟩ := own_some hown h0
  have HOW := Lib.hid hown; have HB := Lib.hid hb
  clear hgrow hown hb
  go_wp2
  go_ret
  exact ⟨_, _, rfl, HOW.out, HB.out⟩
/-- Whether sets lie between bounds. -/
def betwAt (b : List Bnd) (l : List Nat) (i : Nat) : Bool := (sDiff (bget b i).inn (nget l i) == 0) && (sDiff (nget l i) (bget b i).can == 0)
def betwB (b : List Bnd) (l : List Nat) : Bool := (List.range b.length).all (betwAt b l)
theorem betwB_yes {b : List Bnd} {l : List Nat} (h : ∀ i, i < b.length → betwAt b l i = true) : betwB b l = true := by unfold betwB; rw [List.all_eq_true]; exact fun i hi => h i (List.mem_range.1 hi)
theorem betwB_no {b : List Bnd} {l : List Nat} {k : Nat} (hk : k < b.length) (h : betwAt b l k = false) : betwB b l = false := by
  unfold betwB
  rw [Bool.eq_false_iff]; intro hc
  have := List.all_eq_true.1 hc k (List.mem_range.2 hk)
  rw [h] at this; cases this
end Go.Proofs.YtilbbnjfaoldoaaGreatDoor
