/- The laws' own holds: all rules of a problem hold for values of all variables. -/
import Derived.Test.YtdmmegmkdhinjaaGreatDoorBL
import Derived.Test.YtdmmegmkdhinjaaGreatDoorPlainU
namespace Go.Proofs.YtdmmegmkdhinjaaGreatDoor
open Go Go.RowKit
attribute [local go_sem] cell_grow u64_sAnd u64_sOr u64_sDiff sDiff_all zeqI zneI sAnd_bit_zero sAnd_bit_zeroN sAnd_bit_nonzero

/-- The values of a rule's variables. -/
def ownOf (l : List Int) (vars : List Int) : List Int := vars.map fun x => iget l x.toNat
theorem ownOf_take (l vars : List Int) {k : Nat} (h : k < vars.length) : ownOf l (vars.take (k + 1)) = ownOf l (vars.take k) ++ [iget l (iget vars k).toNat] := by
  unfold ownOf
  rw [List.take_add_one, List.map_append]
  unfold iget
  rw [List.getElem?_eq_getElem h]; rfl
def allHold (p : Dp) (l : List Int) : Bool := p.rules.all fun r => holdsD r (ownOf l r.vars)
/-- Values of all variables. -/
structure Vals16 (p : Dp) (l : List Int) : Prop where
  len : l.length = p.doms.length
  val : ∀ i, 0 ≤ iget l i ∧ iget l i ≤ 15
theorem own_fit {p : Dp} (hp : probD p = true) {l : List Int} (h : Vals16 p l) {n : Nat} (hn : n < p.rules.length) : HFit (drget p.rules n) (ownOf l (drget p.rules n).vars) := by
  have hr := (probD_parts hp).2.2.2.2 n hn
  have hlen : (ownOf l (drget p.rules n).vars).length = (drget p.rules n).vars.length := by unfold ownOf; rw [List.length_map]
  have hrp := ruleD_parts hr
  refine ⟨by rw [hlen]; have := hrp.2.1; omega, fun hk => ⟨by rw [hlen, rule_nums hr hk]; exact Nat.le_refl _, fun i hi => ?_⟩, fun k1 k2 => by rw [hlen, rule_two hr k1 k2]; exact Nat.le_refl _, fun i hi => ?_, hrp.2.2.2.1⟩
  · have hf := hrp.2.2.2.2.2
    unfold formD at hf
    rw [if_pos hk] at hf
    simp only [Bool.and_eq_true] at hf
    exact allB_get hf.2 (by rw [rule_nums hr hk]; rw [hlen] at hi; exact hi)
  · have : iget (ownOf l (drget p.rules n).vars) i = iget l (iget (drget p.rules n).vars i).toNat := by
      rw [hlen] at hi
      unfold ownOf iget
      simp [hi]
    rw [this]; exact h.val _
set_option maxRecDepth 100000 in
set_option maxHeartbeats 1000000 in
theorem holds1_any (r : Dr) (l : List Int) (hv : ∀ i, i < r.vars.length → 0 ≤ iget r.vars i ∧ iget r.vars i < l.length) (h4 : r.vars.length ≤ 1000) (hf : HFit r (ownOf l r.vars)) (vv nv : Value) (lc : Value) (b : Nat) (w : World) {B : Nat} (hr : RuleAt w B r vv nv) (hl : Ints w B lc l) (hB : B ≤ w.heap.size)
    (hc : w.cell? ⟨b, 0, none⟩ = some lc) (hbz : b < w.heap.size) (hcs : ∃ c t f, w.heap[b]? = some (.cells c t f)) :
    Gives Tryz.prog 63 #[ruleV r vv nv, .pointer (some ⟨b, 0, none⟩)] w (.bool (!holdsD r (ownOf l r.vars))) := by
  obtain ⟨va, vc, rfl⟩ := hr.vars.slice
  obtain ⟨na, nc, rfl⟩ := hr.nums.slice
  obtain ⟨la, lcc, rfl⟩ := hl.slice
  have hll := hl.1
  unfold ruleV Gives
  obtain ⟨i0, hin, hz0, hz1, hz2⟩ := info_parts info3
  obtain ⟨bc, bt, bf, hbk⟩ := hcs
  have HR := Lib.hid hr; have HL := Lib.hid hl; have HV := Lib.hid hv; have HF := Lib.hid hf; have HBK := Lib.hid hbk; have HC := Lib.hid hc
  clear hr hl hv hf hbk hc
  go_enter Tryz.func63, Tryz.ntmps63
  go_upto_region 1 with fail
  refine abs_wp (fun W => W.heap[w.heap.size]? = some (.cells #[.int .i64 r.kind, .slice va r.vars.length vc, .slice na r.nums.length nc, .int .i64 r.n] 69 (0, 0)) ∧ Below w.heap.size w W) ⟨heap_new0 _ _, Below.new1 _ _⟩ ?_
  rintro W ⟨k0, hb⟩
  have zW : w.heap.size < W.heap.size := (Array.getElem?_eq_some_iff.1 k0).1
  have K0 := Lib.hid k0; have HB := Lib.hid hb
  clear k0 hb
  have c1 : W.cell? ⟨w.heap.size, 1, none⟩ = some (.slice va r.vars.length vc) := by rw [cell_of_row _ _ _ _ _ _ K0.out]; rfl
  go_wp2_with fail
  clear c1
  go_loopw [4, 10] (fun ov iv wr => ∃ k : Nat, k ≤ r.vars.length ∧ iv = .int .i64 k ∧ wr.ownsRow W.heap.size 3 1 ov k (intsV (ownOf l (r.vars.take k))) ∧ Below W.heap.size W wr) (fun _ iv _ => r.vars.length - (intOf iv).toNat)
  case atStart => exact ⟨0, Nat.zero_le _, rfl, World.ownsRow_nil _ _ _ _, Below.refl _ _⟩
  case round =>
    obtain ⟨k, hk, rfl, hown, hbw⟩ := hrel
    have kr := heap_later K0.out hbw zW
    have zr : w.heap.size < wr.heap.size := (Array.getElem?_eq_some_iff.1 kr).1
    have hbl := HB.out.trans (hbw.mono HB.out.size)
    have cl : wr.cell? ⟨b, 0, none⟩ = some (.slice la l.length lcc) := by rw [hbl.cell (p := ⟨b, 0, none⟩) hbz]; exact HC.out
    have zb : b < wr.heap.size := Nat.lt_trans hbz zr
    have KR := Lib.hid kr
    have HOW := Lib.hid hown; have HBW := Lib.hid hbw
    by_cases hlt : k < r.vars.length
    · obtain ⟨_, a1, cc1, hae, _, _, hr1⟩ := HR.out.vars.below hbl hB
      cases hae
      obtain ⟨b1, o1, rfl, hb1, hc1⟩ := hr1 (by omega)
      have q0 : wr.cell? ⟨b1, o1 + k, none⟩ = some (.int .i64 (iget r.vars k)) := hc1 k (by omega)
      have hvk := HV.out k hlt
      obtain ⟨x, hx⟩ : ∃ x : Nat, iget r.vars k = (x : Int) := ⟨(iget r.vars k).toNat, by omega⟩
      rw [hx] at q0 hvk
      have hxl : x < l.length := by omega
      obtain ⟨_, a2, cc2, hae, _, _, hr2⟩ := HL.out.below hbl hB
      cases hae
      obtain ⟨b2, o2, rfl, hb2, hc2⟩ := hr2 (by omega)
      have q1 : wr.cell? ⟨b2, o2 + x, none⟩ = some (.int .i64 (iget l x)) := hc2 x (by omega)
      have HTK : Hid (ownOf l (r.vars.take (k + 1)) = ownOf l (r.vars.take k) ++ [iget l x]) := Lib.hid (by rw [ownOf_take l _ hlt, hx]; rfl)
      obtain ⟨y, hy⟩ : ∃ y, y = iget l x := ⟨_, rfl⟩
      rw [← hy] at q1 HTK
      clear hr1 hc1 hr2 hc2 hown hbw hx hy kr hbl
      have hnw := Below.new1 wr (.cells #[.int .i64 y] 3)
      have HNW := Lib.hid hnw
      clear hnw
      go_wp2_with (at_builtin; refine wpList_append_own _ rfl _ _ 39 rfl W.heap.size 3 i0 (.int .i64 0) 1 8 Tryz.underlying39 hin hz0 hz1 hz2 rfl (by decide) _ _ _ rfl (HOW.out.alloc _) ⟨wr.heap.size, 0, none⟩ 1 1 (intsV [y]) rfl rfl ?c1 ?c2 ?c3 ?c4 ?c5 ?_)
      case c1 =>
        intro q u hq
        match q, hq with
        | 0, hq => cases hq; rw [Addr.add_lit, Nat.zero_add, cell_of_row _ _ _ _ _ _ (heap_new0 wr _)]; rfl
      case c2 => exact ints_one _
      case c3 => unfold maxLen; omega
      case c4 => omega
      case c5 => have := HBW.out.size; simp; omega
      intro v' w3 hown3 hgrow3 _
      have hb3 := ((HBW.out.trans (HNW.out.mono HBW.out.size)).grown hgrow3 (by have := HBW.out.size; simp; omega) (fun q hq => (HOW.out.lt q hq).1))
      rw [intsV_append, ← HTK.out] at hown3
      have HO3 := Lib.hid hown3; have HB3 := Lib.hid hb3
      clear hown3 hgrow3 hb3
      go_wp2
      go_roundw
      case rel => exact ⟨k + 1, by omega, by go_num, HO3.out, HB3.out⟩
      case measure => simp [intOf]; omega
    · have hk2 : k = r.vars.length := by omega
      subst hk2
      have hown2 := hown
      rw [List.take_length] at hown2
      have hlo : (ownOf l r.vars).length = r.vars.length := by unfold ownOf; rw [List.length_map]
      have HOI := Lib.hid (ownsRow_ints hown2 (by omega) hlo)
      have HBL := Lib.hid hbl
      obtain ⟨oa, oc, rfl⟩ := own_form hown
      have r0 : wr.cell? ⟨w.heap.size, 0, none⟩ = some (.int .i64 r.kind) := by rw [cell_of_row _ _ _ _ _ _ kr]; rfl
      have r1 : wr.cell? ⟨w.heap.size, 1, none⟩ = some (.slice va r.vars.length vc) := by rw [cell_of_row _ _ _ _ _ _ kr]; rfl
      have r2 : wr.cell? ⟨w.heap.size, 2, none⟩ = some (.slice na r.nums.length nc) := by rw [cell_of_row _ _ _ _ _ _ kr]; rfl
      have r3 : wr.cell? ⟨w.heap.size, 3, none⟩ = some (.int .i64 r.n) := by rw [cell_of_row _ _ _ _ _ _ kr]; rfl
      have HRH := Lib.hid (refHolds_any r _ HF.out (.slice va r.vars.length vc) (.slice na r.nums.length nc) _ wr ((HR.out.below hbl hB).mono (show B ≤ wr.heap.size by omega)) HOI.out (Nat.le_refl _))
      unfold ruleV at HRH
      rw [← hlo] at hlt hown hk
      clear hown hown2 hbw kr hbl hlo HOW
      go_wp2_with fail
      refine HRH.out.mono ?_
      rintro e w2 ⟨rfl, hb2⟩
      have HB2 := Lib.hid (HBL.out.trans (hb2.mono HBL.out.size))
      clear hb2 HRH
      go_wp2
      go_ret
      exact ⟨rfl, HB2.out⟩
set_option maxRecDepth 100000 in
set_option maxHeartbeats 1000000 in
theorem lawHolds_any (p : Dp) (l : List Int) (hp : probD p = true) (hl : Vals16 p l) (dv rv lv : Value) (w : World) {B : Nat} (hdv : Us w B dv p.doms) (hrv : DRls w B rv p.rules) (hlv : Ints w B lv l) (hB : B ≤ w.heap.size) :
    Gives Tryz.prog 31 #[.agg #[dv, rv], lv] w (.bool (allHold p l)) := by
  unfold Gives
  have HDV := Lib.hid hdv; have HRV := Lib.hid hrv; have HLV := Lib.hid hlv; have HP := Lib.hid hp; have HL := Lib.hid hl
  obtain ⟨da, dc, rfl⟩ := hdv.slice
  obtain ⟨ra, rc, rfl⟩ := hrv.slice
  obtain ⟨la, lc, rfl⟩ := hlv.slice
  clear hdv hrv hlv hp hl
  go_enter Tryz.func31, Tryz.ntmps31
  go_upto_region 1 with fail
  refine abs_wp (fun W => W.heap[w.heap.size]? = some (.cells #[.slice da p.doms.length dc, .slice ra p.rules.length rc] 25 (0, 0)) ∧ W.heap[w.heap.size + 1]? = some (.cells #[.slice la l.length lc] 39 (0, 0)) ∧ Below w.heap.size w W) ⟨heap_later (heap_new0 _ _) (Below.new1 _ _) (by simp), (by rw [show w.heap.size + 1 = (w.alloc (.cells #[.slice da p.doms.length dc, .slice ra p.rules.length rc] 25)).heap.size by simp]; exact heap_new0 _ _), (Below.new1 _ _).trans ((Below.new1 _ _).mono (by simp))⟩ ?_
  rintro W ⟨k0, k1, hb⟩
  have z1 : w.heap.size + 1 < W.heap.size := (Array.getElem?_eq_some_iff.1 k1).1
  obtain ⟨cf, hrow, hcf⟩ := HRV.out.below hb hB
  have HHAS := Lib.hid (hasR _ p.rules.length cf 63 #[.pointer (some ⟨w.heap.size + 1, 0, none⟩)] (fun k => !holdsD (drget p.rules k) (ownOf l (drget p.rules k).vars)) W hrow (by omega) (enters_of Tryz.func63 (by kernel_rfl) rfl) (fun k hk w' hb' => by
    obtain ⟨e0, e1, e2, e3⟩ := hcf k hk
    rw [e0, e3]
    have hkk := heap_later k1 hb' z1
    have hpp := (probD_parts HP.out).2.2.2.2 k hk
    have hpr := ruleD_parts hpp
    exact holds1_any (drget p.rules k) l (fun i hi => by rw [HL.out.len]; exact hpr.2.2.1 i hi) (by have := hpr.2.1; omega) (own_fit HP.out HL.out hk) _ _ _ (w.heap.size + 1) w' (B := W.heap.size) ((RuleAt.below ⟨e1, e2⟩ hb' (by omega)).mono (by omega)) (((HLV.out.below hb hB).below hb' (by omega)).mono (by omega)) hb'.size
      (by rw [cell_of_row _ _ _ _ _ _ hkk]; rfl) (by have := hb'.size; omega) ⟨_, _, _, hkk⟩))
  have HB := Lib.hid hb
  have c1 : W.cell? ⟨w.heap.size, 1, none⟩ = some (.slice ra p.rules.length rc) := by rw [cell_of_row _ _ _ _ _ _ k0]; rfl
  clear k0 k1 hb hrow hcf
  go_wp2_with fail
  refine HHAS.out.mono ?_
  rintro e w2 ⟨rfl, hb2⟩
  have HB2 := Lib.hid (HB.out.trans (hb2.mono HB.out.size))
  clear hb2 HHAS
  have hall : (!(List.range p.rules.length).any fun k => !holdsD (drget p.rules k) (ownOf l (drget p.rules k).vars)) = allHold p l := by
    unfold allHold
    rw [Bool.eq_iff_iff, Bool.not_eq_true', ← Bool.not_eq_true, List.any_eq_true, List.all_eq_true]
    constructor
    · intro h r hr
      obtain ⟨i, hi, rfl⟩ := List.mem_iff_getElem.1 hr
      refine Classical.byContradiction fun hc => h ⟨i, List.mem_range.2 hi, ?_⟩
      have e : drget p.rules i = p.rules[i] := by unfold drget; rw [List.getElem?_eq_getElem hi]; rfl
      rw [e, Bool.not_eq_true', Bool.eq_false_iff]; exact hc
    · rintro h ⟨i, hi, hc⟩
      have := h _ (drget_mem (List.mem_range.1 hi))
      rw [this] at hc; cases hc
  go_wp2
  go_ret
  exact ⟨by rw [← hall]; rfl, HB2.out⟩
end Go.Proofs.YtdmmegmkdhinjaaGreatDoor
