/- The reference of Domain: Can. · The reference of Domain: Can, of two variables. -/
import Derived.Test.YtdmmegmkdhinjaaGreatDoorBL
namespace Go.Proofs.YtdmmegmkdhinjaaGreatDoor
open Go Go.RowKit
attribute [local go_sem] cell_grow u64_sAnd u64_sOr u64_sDiff sDiff_all zeqI zneI sAnd_bit_zero sAnd_bit_zeroN sAnd_bit_nonzero

theorem ints_block {w : World} {b : Nat} {xs : List Int} (h : w.heap[b]? = some (.cells (intsV xs).toArray 3 (0, 0))) (hl : xs.length ≤ 1000) : Ints w w.heap.size (.slice (some ⟨b, 0, none⟩) xs.length xs.length) xs :=
  ⟨by omega, _, _, rfl, Nat.le_refl _, by unfold maxLen; omega, fun _ => ⟨b, 0, rfl, (Array.getElem?_eq_some_iff.1 h).1, fun i hi => by
    rw [Nat.zero_add, cell_of_row _ _ _ _ _ _ h, List.getElem?_toArray, ints_get xs i (by omega)]⟩⟩
theorem us_block {w : World} {b : Nat} {xs : List Nat} (h : w.heap[b]? = some (.cells (natsV xs).toArray 56 (0, 0))) (hl : xs.length ≤ 1000) : Us w w.heap.size (.slice (some ⟨b, 0, none⟩) xs.length xs.length) xs :=
  ⟨by omega, _, _, rfl, Nat.le_refl _, by unfold maxLen; omega, fun _ => ⟨b, 0, rfl, (Array.getElem?_eq_some_iff.1 h).1, fun i hi => by
    rw [Nat.zero_add, cell_of_row _ _ _ _ _ _ h, List.getElem?_toArray, natsV_get xs i (by omega)]⟩⟩
/-- A rule of two variables can hold just if it holds for two values. -/
theorem can_pair {r : Dr} {n : Int} (h : ruleD r n = true) (h1 : r.kind ≠ 1) (h2 : r.kind ≠ 2) {d0 d1 : Nat} (hd0 : d0 < 65536) (hd1 : d1 < 65536) {ds : List Nat} (e0 : nget ds 0 = d0) (e1 : nget ds 1 = d1) :
    canD r ds = true ↔ ∃ a b : Nat, a < 16 ∧ b < 16 ∧ d0.testBit a = true ∧ d1.testBit b = true ∧ holdsD r [(a : Int), (b : Int)] = true := by
  have hf := (ruleD_parts h).2.2.2.2.2
  unfold canD holdsD
  rw [if_neg h1, if_neg h2, e0, e1]
  simp only [if_neg h1, if_neg h2]
  by_cases h3 : r.kind = 3
  · rw [if_pos h3]
    simp only [if_pos h3]
    unfold formD at hf
    rw [if_neg h1, if_neg h2, if_pos h3] at hf
    simp only [Bool.and_eq_true] at hf
    have hal := hf.1.2
    rw [List.any_eq_true]
    constructor
    · rintro ⟨v, hv, hh⟩
      obtain ⟨hv64, hvb⟩ := mem_elems.1 hv
      simp only [Bool.and_eq_true, decide_eq_true_eq] at hh
      have hr := allB_get hal hh.1
      have hb := hh.2
      unfold hasD at hb
      simp only [Bool.and_eq_true] at hb
      refine ⟨v, (iget r.nums v).toNat, bit_lt16 hd0 hvb, by omega, hvb, hb.2, ?_⟩
      show (decide ((v : Int) < r.nums.length) && (iget r.nums (v : Int).toNat == ((iget r.nums v).toNat : Int))) = true
      rw [Int.toNat_natCast, decide_eq_true (by omega), Bool.true_and, beq_iff_eq]
      omega
    · rintro ⟨a, b, ha, hb, h4, h5, hh⟩
      have hh : (decide ((a : Int) < r.nums.length) && (iget r.nums (a : Int).toNat == (b : Int))) = true := hh
      rw [Int.toNat_natCast, Bool.and_eq_true, decide_eq_true_eq, beq_iff_eq] at hh
      refine ⟨a, mem_elems.2 ⟨by omega, h4⟩, ?_⟩
      rw [hh.2, hasD_bit hb, h5, decide_eq_true (by omega)]; rfl
  · rw [if_neg h3]
    simp only [if_neg h3]
    rw [List.any_eq_true]
    constructor
    · rintro ⟨v, hv, hh⟩
      obtain ⟨hv64, hvb⟩ := mem_elems.1 hv
      unfold hasD at hh
      simp only [Bool.and_eq_true] at hh
      have hin := hh.1
      unfold inB at hin
      simp only [Bool.and_eq_true, decide_eq_true_eq] at hin
      refine ⟨((v : Int) + r.n).toNat, v, by omega, bit_lt16 hd1 hvb, hh.2, hvb, ?_⟩
      show ((((v : Int) + r.n).toNat : Int) == (v : Int) + r.n) = true
      rw [beq_iff_eq]; omega
    · rintro ⟨a, b, ha, hb, h4, h5, hh⟩
      have hh : ((a : Int) == (b : Int) + r.n) = true := hh
      rw [beq_iff_eq] at hh
      refine ⟨b, mem_elems.2 ⟨by omega, h5⟩, ?_⟩
      rw [← hh, hasD_bit ha, h4]
theorem poss_zero {r : Dr} {ds : List Nat} {k : Nat} (hk : k < ds.length) (h : nget ds k = 0) : possD r ds = false := by
  unfold possD
  have : ds.contains 0 = true := by
    rw [List.contains_iff_mem, ← h]
    unfold nget; rw [List.getElem?_eq_getElem hk]; exact List.getElem_mem hk
  rw [this]; rfl
theorem poss_full {r : Dr} {ds : List Nat} (h : ∀ k, k < ds.length → nget ds k ≠ 0) : possD r ds = canD r ds := by
  unfold possD
  have : ds.contains 0 = false := by
    rw [Bool.eq_false_iff]; intro hc
    rw [List.contains_iff_mem] at hc
    obtain ⟨k, hk, e⟩ := List.mem_iff_getElem.1 hc
    exact h k hk (by unfold nget; rw [List.getElem?_eq_getElem hk]; exact e)
  rw [this]; rfl
set_option maxRecDepth 100000 in
set_option maxHeartbeats 4000000 in
theorem refCan1 (r : Dr) {n : Int} (hr0 : ruleD r n = true) (ds : List Nat) (hlen : ds.length = r.vars.length) (hds : ∀ i, i < ds.length → nget ds i < 65536) (vv nv dv : Value) (w : World) {B : Nat} (hr : RuleAt w B r vv nv) (hd : Us w B dv ds) (hB : B ≤ w.heap.size) (k1 : r.kind = 1) :
    Gives Tryz.prog 112 #[ruleV r vv nv, dv] w (.bool (possD r ds)) := by
  have HKD := Lib.hid k1
  clear k1
  unfold Gives
  have HR := Lib.hid hr; have HD := Lib.hid hd; have HDS := Lib.hid hds; have HR0 := Lib.hid hr0; have HLEN := Lib.hid hlen
  have hp := ruleD_parts hr0
  have h4 : ds.length ≤ 4 := by have := hp.2.1; omega
  have hrn := hp.2.2.2.1
  have HFM := Lib.hid hp.2.2.2.2.2
  obtain ⟨va, vc, rfl⟩ := hr.vars.slice
  obtain ⟨na, nc, rfl⟩ := hr.nums.slice
  obtain ⟨da, dc, rfl⟩ := hd.slice
  unfold ruleV
  clear hr hd hds hr0 hp hlen
  go_enter Tryz.func112, Tryz.ntmps112
  go_upto_region 1 with fail
  refine abs_wp (fun W => W.heap[w.heap.size]? = some (.cells #[.int .i64 r.kind, .slice va r.vars.length vc, .slice na r.nums.length nc, .int .i64 r.n] 69 (0, 0)) ∧ Below w.heap.size w W) ⟨heap_new0 _ _, Below.new1 _ _⟩ ?_
  rintro W ⟨k0, hb⟩
  have K0 := Lib.hid k0; have HB := Lib.hid hb
  have hcell : ∀ (Y : World), Below w.heap.size w Y → ∀ i, i < ds.length → ∃ b off, da = some ⟨b, off, none⟩ ∧ b < Y.heap.size ∧ ∀ j, j < ds.length → Y.cell? ⟨b, off + j, none⟩ = some (.int .u64 (nget ds j : Nat)) := fun Y hY i hi => by
    obtain ⟨_, a', c', hae, _, _, hir⟩ := HD.out.below hY hB
    cases hae
    obtain ⟨b, off, rfl, hb, hc⟩ := hir (by omega)
    exact ⟨b, off, rfl, by have := hY.size; omega, fun j hj => hc j (by omega)⟩
  have HCELL := Lib.hid hcell
  clear k0 hb hcell
  go_wp2_with fail
  go_loopw [5] (fun iv wr => ∃ k : Nat, k ≤ ds.length ∧ iv = .int .i64 k ∧ (∀ j, j < k → nget ds j ≠ 0) ∧ wr.heap[w.heap.size]? = some (.cells #[.int .i64 r.kind, .slice va r.vars.length vc, .slice na r.nums.length nc, .int .i64 r.n] 69 (0, 0)) ∧ Below w.heap.size w wr) (fun iv _ => ds.length - (intOf iv).toNat)
  case atStart => exact ⟨0, Nat.zero_le _, rfl, fun j hj => absurd hj (Nat.not_lt_zero _), K0.out, HB.out⟩
  case round =>
    obtain ⟨k, hk, rfl, hall, kr, hb⟩ := hrel
    obtain ⟨wo, rfl⟩ : ∃ wo : World, wo = wr := ⟨_, rfl⟩
    have HALL := Lib.hid hall; have KR := Lib.hid kr; have HBR := Lib.hid hb
    clear hall kr hb K0 HB
    by_cases hlt : k < ds.length
    · obtain ⟨b, off, rfl, zb, hcl⟩ := HCELL.out wo HBR.out k hlt
      have e0 := hcl k hlt
      clear hcl
      by_cases hz : nget ds k = 0
      · have HN := Lib.hid (poss_zero (r := r) hlt hz)
        rw [hz] at e0
        clear hz
        go_wp2
        go_ret
        exact ⟨by rw [HN.out]; rfl, HBR.out⟩
      · have HZ := Lib.hid hz
        have f1 : (((nget ds k : Nat) : Int) == 0) = false := by rw [beq_eq_false_iff_ne]; omega
        clear hz
        go_wp2
        go_roundw
        case rel => exact ⟨k + 1, by omega, by go_num, fun j hj => if h : j = k then h ▸ HZ.out else HALL.out j (by omega), KR.out, HBR.out⟩
        case measure => simp [intOf]; omega
    · have hk2 : k = ds.length := by omega
      subst hk2
      have HP := Lib.hid (poss_full (r := r) HALL.out)
      have zr : w.heap.size < wo.heap.size := (Array.getElem?_eq_some_iff.1 KR.out).1
      have c0 : wo.cell? ⟨w.heap.size, 0, none⟩ = some (.int .i64 r.kind) := by rw [cell_of_row _ _ _ _ _ _ KR.out]; rfl
      have hBs := HBR.out.size
      have k1 := HKD.out
      have HC : Hid (canD r ds = decide (sumD r.nums ds ≤ r.n)) := Lib.hid (by unfold canD; rw [if_pos k1])
      have hfm := HFM.out
      unfold formD at hfm
      rw [if_pos k1] at hfm
      simp only [Bool.and_eq_true, beq_iff_eq] at hfm
      have hnl : r.nums.length = ds.length := by have := HLEN.out; omega
      have HNU := Lib.hid (fun i (hi : i < r.nums.length) => allB_get hfm.2 hi)
      rw [k1] at c0
      clear hfm
      go_wp2_with fail
      go_loopw [6, 7] (fun sv iv wr => ∃ (k : Nat) (s : Int), k ≤ ds.length ∧ iv = .int .i64 k ∧ sv = .int .i64 s ∧ s = sumD (r.nums.take k) (ds.take k) ∧ -300 * (k : Int) ≤ s ∧ s ≤ 300 * (k : Int) ∧ wr.heap[w.heap.size]? = some (.cells #[.int .i64 r.kind, .slice va r.vars.length vc, .slice na r.nums.length nc, .int .i64 r.n] 69 (0, 0)) ∧ Below w.heap.size w wr) (fun _ iv _ => ds.length - (intOf iv).toNat)
      case atStart => exact ⟨0, 0, Nat.zero_le _, rfl, rfl, by simp [sumD], by omega, by omega, KR.out, HBR.out⟩
      case round =>
        obtain ⟨k, s, hk, rfl, rfl, hsd, hs1, hs2, kq, hb⟩ := hrel
        obtain ⟨wp, rfl⟩ : ∃ wp : World, wp = wr := ⟨_, rfl⟩
        have zq : w.heap.size < wp.heap.size := (Array.getElem?_eq_some_iff.1 kq).1
        have c2 : wp.cell? ⟨w.heap.size, 2, none⟩ = some (.slice na r.nums.length nc) := by rw [cell_of_row _ _ _ _ _ _ kq]; rfl
        have c3 : wp.cell? ⟨w.heap.size, 3, none⟩ = some (.int .i64 r.n) := by rw [cell_of_row _ _ _ _ _ _ kq]; rfl
        have HSD := Lib.hid hsd; have KQ := Lib.hid kq; have HBQ := Lib.hid hb
        clear hsd kq hb c0 KR HBR
        by_cases hlt : k < ds.length
        · obtain ⟨b, off, rfl, zb, hcl⟩ := HCELL.out wp HBQ.out k hlt
          have e0 := hcl k hlt
          obtain ⟨_, a', c', hae, _, _, hir⟩ := HR.out.nums.below HBQ.out hB
          cases hae
          obtain ⟨b2, off2, rfl, zb2', hcn⟩ := hir (by omega)
          have e1 : wp.cell? ⟨b2, off2 + k, none⟩ = some (.int .i64 (iget r.nums k)) := hcn k (by omega)
          have zb2 : b2 < wp.heap.size := by have := HBQ.out.size; omega
          have hnk := HNU.out k (by omega)
          have hdk := HDS.out k hlt
          have hdz := HALL.out k hlt
          have hhi := (hi_spec hdk hdz).2.1
          have hlo := (lo_spec hdk hdz).2.1
          have hll : -300 ≤ leastN (nget ds k) (iget r.nums k) ∧ leastN (nget ds k) (iget r.nums k) ≤ 300 := by
            unfold leastN
            split
            · exact term_lim hnk (by omega)
            · exact term_lim hnk (by omega)
          have HT := Lib.hid (sumD_take hnl (k := k) hlt)
          have HL := Lib.hid (fun (dd : Nat) (os : Array Obj) => Gives.of_same (least_any (nget ds k) hdk hdz (iget r.nums k) hnk (Go.Sort.grow (redrawn wp dd) os)))
          have HLE : Hid (leastN (nget ds k) (iget r.nums k) = iget r.nums k * (if iget r.nums k < 0 then (hiD (nget ds k) : Int) else (ctzN (nget ds k) : Int))) := Lib.hid rfl
          obtain ⟨x, hx⟩ : ∃ x, x = leastN (nget ds k) (iget r.nums k) := ⟨_, rfl⟩
          rw [← hx] at hll HL HLE
          have hkI : (k : Int) ≤ 4 := by omega
          have hwr2 : IntKind.i64.wrap (s + x) = s + x := by rw [IntKind.wrap_i64]; omega
          clear hcl hir hcn hx hnk hdk hdz hhi hlo
          go_wp2_with fail
          refine wp_region_qb (by kernel_rfl) (by kernel_rfl) ?_
          repeat go_big_quiet_step ((with_reducible exact Gives.quiet (HL.out _ _)))
          refine wpQuiet_nil ?_
          intro w2 hb2
          have HB2 := Lib.hid (HBQ.out.trans (hb2.mono HBQ.out.size)); have K2 := Lib.hid (heap_later KQ.out hb2 zq)
          clear hb2
          go_wp2
          go_roundw
          case rel => exact ⟨k + 1, s + x, by omega, by go_num, by first | rfl | (rw [hwr2]), by rw [HT.out, ← HSD.out, ← HLE.out], by omega, by omega, K2.out, HB2.out⟩
          case measure => simp [intOf]; omega
        · have hk2 : k = ds.length := by omega
          subst hk2
          have HE : Hid (sumD r.nums ds = s) := Lib.hid (by rw [HSD.out, List.take_length, ← hnl, List.take_length])
          go_wp2
          go_ret
          exact ⟨by rw [HP.out, HC.out, HE.out]; rfl, HBQ.out⟩
set_option maxRecDepth 100000 in
set_option maxHeartbeats 4000000 in
theorem refCan2 (r : Dr) {n : Int} (hr0 : ruleD r n = true) (ds : List Nat) (hlen : ds.length = r.vars.length) (hds : ∀ i, i < ds.length → nget ds i < 65536) (vv nv dv : Value) (w : World) {B : Nat} (hr : RuleAt w B r vv nv) (hd : Us w B dv ds) (hB : B ≤ w.heap.size) (k2 : r.kind = 2) :
    Gives Tryz.prog 112 #[ruleV r vv nv, dv] w (.bool (possD r ds)) := by
  have HKD := Lib.hid k2
  clear k2
  unfold Gives
  have HR := Lib.hid hr; have HD := Lib.hid hd; have HDS := Lib.hid hds; have HR0 := Lib.hid hr0; have HLEN := Lib.hid hlen
  have hp := ruleD_parts hr0
  have h4 : ds.length ≤ 4 := by have := hp.2.1; omega
  have hrn := hp.2.2.2.1
  have HFM := Lib.hid hp.2.2.2.2.2
  obtain ⟨va, vc, rfl⟩ := hr.vars.slice
  obtain ⟨na, nc, rfl⟩ := hr.nums.slice
  obtain ⟨da, dc, rfl⟩ := hd.slice
  unfold ruleV
  clear hr hd hds hr0 hp hlen
  go_enter Tryz.func112, Tryz.ntmps112
  go_upto_region 1 with fail
  refine abs_wp (fun W => W.heap[w.heap.size]? = some (.cells #[.int .i64 r.kind, .slice va r.vars.length vc, .slice na r.nums.length nc, .int .i64 r.n] 69 (0, 0)) ∧ Below w.heap.size w W) ⟨heap_new0 _ _, Below.new1 _ _⟩ ?_
  rintro W ⟨k0, hb⟩
  have K0 := Lib.hid k0; have HB := Lib.hid hb
  have hcell : ∀ (Y : World), Below w.heap.size w Y → ∀ i, i < ds.length → ∃ b off, da = some ⟨b, off, none⟩ ∧ b < Y.heap.size ∧ ∀ j, j < ds.length → Y.cell? ⟨b, off + j, none⟩ = some (.int .u64 (nget ds j : Nat)) := fun Y hY i hi => by
    obtain ⟨_, a', c', hae, _, _, hir⟩ := HD.out.below hY hB
    cases hae
    obtain ⟨b, off, rfl, hb, hc⟩ := hir (by omega)
    exact ⟨b, off, rfl, by have := hY.size; omega, fun j hj => hc j (by omega)⟩
  have HCELL := Lib.hid hcell
  clear k0 hb hcell
  go_wp2_with fail
  go_loopw [5] (fun iv wr => ∃ k : Nat, k ≤ ds.length ∧ iv = .int .i64 k ∧ (∀ j, j < k → nget ds j ≠ 0) ∧ wr.heap[w.heap.size]? = some (.cells #[.int .i64 r.kind, .slice va r.vars.length vc, .slice na r.nums.length nc, .int .i64 r.n] 69 (0, 0)) ∧ Below w.heap.size w wr) (fun iv _ => ds.length - (intOf iv).toNat)
  case atStart => exact ⟨0, Nat.zero_le _, rfl, fun j hj => absurd hj (Nat.not_lt_zero _), K0.out, HB.out⟩
  case round =>
    obtain ⟨k, hk, rfl, hall, kr, hb⟩ := hrel
    obtain ⟨wo, rfl⟩ : ∃ wo : World, wo = wr := ⟨_, rfl⟩
    have HALL := Lib.hid hall; have KR := Lib.hid kr; have HBR := Lib.hid hb
    clear hall kr hb K0 HB
    by_cases hlt : k < ds.length
    · obtain ⟨b, off, rfl, zb, hcl⟩ := HCELL.out wo HBR.out k hlt
      have e0 := hcl k hlt
      clear hcl
      by_cases hz : nget ds k = 0
      · have HN := Lib.hid (poss_zero (r := r) hlt hz)
        rw [hz] at e0
        clear hz
        go_wp2
        go_ret
        exact ⟨by rw [HN.out]; rfl, HBR.out⟩
      · have HZ := Lib.hid hz
        have f1 : (((nget ds k : Nat) : Int) == 0) = false := by rw [beq_eq_false_iff_ne]; omega
        clear hz
        go_wp2
        go_roundw
        case rel => exact ⟨k + 1, by omega, by go_num, fun j hj => if h : j = k then h ▸ HZ.out else HALL.out j (by omega), KR.out, HBR.out⟩
        case measure => simp [intOf]; omega
    · have hk2 : k = ds.length := by omega
      subst hk2
      have HP := Lib.hid (poss_full (r := r) HALL.out)
      have zr : w.heap.size < wo.heap.size := (Array.getElem?_eq_some_iff.1 KR.out).1
      have c0 : wo.cell? ⟨w.heap.size, 0, none⟩ = some (.int .i64 r.kind) := by rw [cell_of_row _ _ _ _ _ _ KR.out]; rfl
      have hBs := HBR.out.size
      have k2 := HKD.out
      have k1 : ¬ r.kind = 1 := by omega
      have f1 : (r.kind == 1) = false := by rw [beq_eq_false_iff_ne]; exact k1
      have HC : Hid (canD r ds = diffD ds 0) := Lib.hid (by unfold canD; rw [if_neg k1, if_pos k2])
      rw [k2] at c0 f1
      have hdf := differ_any ds 0 _ wo (HD.out.below HBR.out hB) (Nat.le_trans hB hBs) HDS.out (by decide)
      unfold Gives at hdf
      rw [show ((0 : Nat) : Int) = 0 from rfl] at hdf
      have HDF := Lib.hid hdf
      clear hdf
      go_wp2_with fail
      refine HDF.out.mono ?_
      rintro e w9 ⟨rfl, hb9⟩
      have HB9 := Lib.hid (HBR.out.trans (hb9.mono hBs))
      clear hb9
      go_wp2
      go_ret
      exact ⟨by rw [HP.out, HC.out]; rfl, HB9.out⟩
end Go.Proofs.YtdmmegmkdhinjaaGreatDoor

namespace Go.Proofs.YtdmmegmkdhinjaaGreatDoor
open Go Go.RowKit
attribute [local go_sem] cell_grow u64_sAnd u64_sOr u64_sDiff sDiff_all zeqI zneI sAnd_bit_zero sAnd_bit_zeroN sAnd_bit_nonzero

def pairOk (r : Dr) (d0 d1 a b : Nat) : Bool := d0.testBit a && d1.testBit b && holdsD r [(a : Int), (b : Int)]
theorem pairOk_a {r : Dr} {d0 d1 a b : Nat} (h : d0.testBit a = false) : pairOk r d0 d1 a b = false := by unfold pairOk; rw [h]; rfl
theorem pairOk_b {r : Dr} {d0 d1 a b : Nat} (h : d1.testBit b = false) : pairOk r d0 d1 a b = false := by unfold pairOk; rw [h]; simp
theorem pairOk_h {r : Dr} {d0 d1 a b : Nat} (h : holdsD r [(a : Int), (b : Int)] = false) : pairOk r d0 d1 a b = false := by unfold pairOk; rw [h]; simp
set_option maxRecDepth 100000 in
set_option maxHeartbeats 2000000 in
theorem refCan3 (r : Dr) {n : Int} (hr0 : ruleD r n = true) (ds : List Nat) (hlen : ds.length = r.vars.length) (hds : ∀ i, i < ds.length → nget ds i < 65536) (vv nv dv : Value) (w : World) {B : Nat} (hr : RuleAt w B r vv nv) (hd : Us w B dv ds) (hB : B ≤ w.heap.size) (k12 : r.kind ≠ 1 ∧ r.kind ≠ 2) :
    Gives Tryz.prog 112 #[ruleV r vv nv, dv] w (.bool (possD r ds)) := by
  have HKD := Lib.hid k12
  clear k12
  have HPR := Lib.hid (fun d0 d1 h0 h1 e0 e1 => can_pair hr0 HKD.out.1 HKD.out.2 (d0 := d0) (d1 := d1) h0 h1 (ds := ds) e0 e1)
  unfold Gives
  have HR := Lib.hid hr; have HD := Lib.hid hd; have HDS := Lib.hid hds; have HR0 := Lib.hid hr0; have HLEN := Lib.hid hlen
  have hp := ruleD_parts hr0
  have h4 : ds.length ≤ 4 := by have := hp.2.1; omega
  have hrn := hp.2.2.2.1
  have HFM := Lib.hid hp.2.2.2.2.2
  obtain ⟨va, vc, rfl⟩ := hr.vars.slice
  obtain ⟨na, nc, rfl⟩ := hr.nums.slice
  obtain ⟨da, dc, rfl⟩ := hd.slice
  unfold ruleV
  clear hr hd hds hr0 hp hlen
  go_enter Tryz.func112, Tryz.ntmps112
  go_upto_region 1 with fail
  refine abs_wp (fun W => W.heap[w.heap.size]? = some (.cells #[.int .i64 r.kind, .slice va r.vars.length vc, .slice na r.nums.length nc, .int .i64 r.n] 69 (0, 0)) ∧ Below w.heap.size w W) ⟨heap_new0 _ _, Below.new1 _ _⟩ ?_
  rintro W ⟨k0, hb⟩
  have K0 := Lib.hid k0; have HB := Lib.hid hb
  have hcell : ∀ (Y : World), Below w.heap.size w Y → ∀ i, i < ds.length → ∃ b off, da = some ⟨b, off, none⟩ ∧ b < Y.heap.size ∧ ∀ j, j < ds.length → Y.cell? ⟨b, off + j, none⟩ = some (.int .u64 (nget ds j : Nat)) := fun Y hY i hi => by
    obtain ⟨_, a', c', hae, _, _, hir⟩ := HD.out.below hY hB
    cases hae
    obtain ⟨b, off, rfl, hb, hc⟩ := hir (by omega)
    exact ⟨b, off, rfl, by have := hY.size; omega, fun j hj => hc j (by omega)⟩
  have HCELL := Lib.hid hcell
  clear k0 hb hcell
  go_wp2_with fail
  go_loopw [5] (fun iv wr => ∃ k : Nat, k ≤ ds.length ∧ iv = .int .i64 k ∧ (∀ j, j < k → nget ds j ≠ 0) ∧ wr.heap[w.heap.size]? = some (.cells #[.int .i64 r.kind, .slice va r.vars.length vc, .slice na r.nums.length nc, .int .i64 r.n] 69 (0, 0)) ∧ Below w.heap.size w wr) (fun iv _ => ds.length - (intOf iv).toNat)
  case atStart => exact ⟨0, Nat.zero_le _, rfl, fun j hj => absurd hj (Nat.not_lt_zero _), K0.out, HB.out⟩
  case round =>
    obtain ⟨k, hk, rfl, hall, kr, hb⟩ := hrel
    obtain ⟨wo, rfl⟩ : ∃ wo : World, wo = wr := ⟨_, rfl⟩
    have HALL := Lib.hid hall; have KR := Lib.hid kr; have HBR := Lib.hid hb
    clear hall kr hb K0 HB
    by_cases hlt : k < ds.length
    · obtain ⟨b, off, rfl, zb, hcl⟩ := HCELL.out wo HBR.out k hlt
      have e0 := hcl k hlt
      clear hcl
      by_cases hz : nget ds k = 0
      · have HN := Lib.hid (poss_zero (r := r) hlt hz)
        rw [hz] at e0
        clear hz
        go_wp2
        go_ret
        exact ⟨by rw [HN.out]; rfl, HBR.out⟩
      · have HZ := Lib.hid hz
        have f1 : (((nget ds k : Nat) : Int) == 0) = false := by rw [beq_eq_false_iff_ne]; omega
        clear hz
        go_wp2
        go_roundw
        case rel => exact ⟨k + 1, by omega, by go_num, fun j hj => if h : j = k then h ▸ HZ.out else HALL.out j (by omega), KR.out, HBR.out⟩
        case measure => simp [intOf]; omega
    · have hk2 : k = ds.length := by omega
      subst hk2
      have HP := Lib.hid (poss_full (r := r) HALL.out)
      have zr : w.heap.size < wo.heap.size := (Array.getElem?_eq_some_iff.1 KR.out).1
      have c0 : wo.cell? ⟨w.heap.size, 0, none⟩ = some (.int .i64 r.kind) := by rw [cell_of_row _ _ _ _ _ _ KR.out]; rfl
      have hBs := HBR.out.size
      have f1 : (r.kind == 1) = false := by rw [beq_eq_false_iff_ne]; exact HKD.out.1
      have f2 : (r.kind == 2) = false := by rw [beq_eq_false_iff_ne]; exact HKD.out.2
      have h2 : ds.length = 2 := by
        have hfm := HFM.out
        unfold formD at hfm
        rw [if_neg HKD.out.1, if_neg HKD.out.2] at hfm
        have := HLEN.out
        split at hfm
        · simp only [Bool.and_eq_true, beq_iff_eq] at hfm; omega
        · split at hfm
          · simp only [Bool.and_eq_true, beq_iff_eq] at hfm; omega
          · cases hfm
      have H2 := Lib.hid h2
      obtain ⟨b, off, rfl, zb, hcl⟩ := HCELL.out wo HBR.out 0 (by omega)
      have hd0 := HDS.out 0 (by omega)
      have hd1 := HDS.out 1 (by omega)
      obtain ⟨d0, he0⟩ : ∃ d0, d0 = nget ds 0 := ⟨_, rfl⟩
      obtain ⟨d1, he1⟩ : ∃ d1, d1 = nget ds 1 := ⟨_, rfl⟩
      rw [← he0] at hd0
      rw [← he1] at hd1
      have HPQ := Lib.hid (HPR.out d0 d1 hd0 hd1 he0.symm he1.symm)
      have hx := hcl 0 (by omega)
      have hy := hcl 1 (by omega)
      rw [← he0] at hx
      rw [← he1] at hy
      rw [show off + 0 = off from rfl] at hx
      have X0 := Lib.hid hx; have X1 := Lib.hid hy
      have hu0 : U64 d0 := Nat.lt_trans hd0 (by decide)
      have hu1 : U64 d1 := Nat.lt_trans hd1 (by decide)
      have hb0 : b < wo.heap.size := zb
      have h1I : (1 : Int) < ((ds.length : Nat) : Int) := by omega
      have h0I : (0 : Int) < ((ds.length : Nat) : Int) := by omega
      clear hcl hx hy he0 he1 zb h2
      go_wp2_with fail
      go_loopw [8, 9] (fun av bv wr => ∃ a : Nat, a ≤ 16 ∧ av = .int .i64 a ∧ (∀ a' b' : Nat, a' < a → b' < 16 → pairOk r d0 d1 a' b' = false) ∧ wr.heap[w.heap.size]? = some (.cells #[.int .i64 r.kind, .slice va r.vars.length vc, .slice na r.nums.length nc, .int .i64 r.n] 69 (0, 0)) ∧ Below wo.heap.size wo wr) (fun av _ _ => 16 - (intOf av).toNat)
      case atStart => exact ⟨0, Nat.zero_le _, rfl, fun a' _ h => absurd h (Nat.not_lt_zero _), KR.out, Below.refl _ _⟩
      case round =>
        obtain ⟨a, ha, rfl, hall, ka, hba⟩ := hrel
        have HAL := Lib.hid hall; have KA := Lib.hid ka; have HBA := Lib.hid hba
        clear hall ka hba KR c0
        by_cases hlt : a < 16
        · have hltI : (a : Int) < 16 := by omega
          go_wp2_with fail
          go_loopw [9] (fun bv wr => ∃ b' : Nat, b' ≤ 16 ∧ bv = .int .i64 b' ∧ (∀ b2 : Nat, b2 < b' → pairOk r d0 d1 a b2 = false) ∧ wr.heap[w.heap.size]? = some (.cells #[.int .i64 r.kind, .slice va r.vars.length vc, .slice na r.nums.length nc, .int .i64 r.n] 69 (0, 0)) ∧ Below wo.heap.size wo wr) (fun bv _ => 16 - (intOf bv).toNat)
          case atStart => exact ⟨0, Nat.zero_le _, rfl, fun b2 h => absurd h (Nat.not_lt_zero _), KA.out, HBA.out⟩
          case round =>
            obtain ⟨e, he, rfl, hall, ke, hbe⟩ := hrel
            have x0 := (hbe.cell (p := ⟨b, off, none⟩) hb0).trans X0.out
            have x1 := (hbe.cell (p := ⟨b, off + 1, none⟩) hb0).trans X1.out
            have zr : w.heap.size < wr.heap.size := (Array.getElem?_eq_some_iff.1 ke).1
            have zb : b < wr.heap.size := by have := hbe.size; omega
            have c0 : wr.cell? ⟨w.heap.size, 0, none⟩ = some (.int .i64 r.kind) := by rw [cell_of_row _ _ _ _ _ _ ke]; rfl
            have c1 : wr.cell? ⟨w.heap.size, 1, none⟩ = some (.slice va r.vars.length vc) := by rw [cell_of_row _ _ _ _ _ _ ke]; rfl
            have c2 : wr.cell? ⟨w.heap.size, 2, none⟩ = some (.slice na r.nums.length nc) := by rw [cell_of_row _ _ _ _ _ _ ke]; rfl
            have c3 : wr.cell? ⟨w.heap.size, 3, none⟩ = some (.int .i64 r.n) := by rw [cell_of_row _ _ _ _ _ _ ke]; rfl
            have HEL := Lib.hid hall; have KE := Lib.hid ke; have HBE := Lib.hid hbe
            clear hall ke hbe KA HBA
            by_cases hle : e < 16
            · have hleI : (e : Int) < 16 := by omega
              have HH0 := Lib.hid (fun W' => refHas_any d0 (a : Int) W' hu0)
              have HH1 := Lib.hid (fun W' => refHas_any d1 (e : Int) W' hu1)
              rw [hasD_bit hlt] at HH0
              rw [hasD_bit hle] at HH1
              cases hA : d0.testBit a <;> rw [hA] at HH0
              · have HA := Lib.hid hA
                clear hA
                go_wp2_with (go_at_call 61; (with_reducible refine (HH0.out _).mono ?_); rintro ee w' ⟨rfl, hww⟩; rw [hww]; clear hww w')
                go_roundw
                case rel => exact ⟨e + 1, by omega, by go_num, fun b2 h => pairOk_a HA.out, KE.out, HBE.out⟩
                case measure => simp [intOf]; omega
              · have HA := Lib.hid hA
                cases hE : d1.testBit e <;> rw [hE] at HH1
                · have HE := Lib.hid hE
                  clear hA hE
                  go_wp2_with (first | (go_at_call 61; (with_reducible refine (HH0.out _).mono ?_); rintro ee w' ⟨rfl, hww⟩; rw [hww]; clear hww w') | (go_at_call 61; (with_reducible refine (HH1.out _).mono ?_); rintro ee w' ⟨rfl, hww⟩; rw [hww]; clear hww w'))
                  go_roundw
                  case rel => exact ⟨e + 1, by omega, by go_num, fun b2 h => if hh : b2 = e then (by subst hh; exact pairOk_b HE.out) else HEL.out b2 (by omega), KE.out, HBE.out⟩
                  case measure => simp [intOf]; omega
                · have HE := Lib.hid hE
                  clear hA hE
                  have hn := Below.new1 wr (.cells (intsV [(a : Int), (e : Int)]).toArray 3)
                  have hk := heap_new0 wr (.cells (intsV [(a : Int), (e : Int)]).toArray 3)
                  have hbw := HBR.out.trans (HBE.out.mono hBs)
                  have HNW := Lib.hid hn
                  have hfit : HFit r [(a : Int), (e : Int)] := ⟨by simp, fun h => absurd h HKD.out.1, fun _ _ => by simp, fun i hi => by
                    rcases i with _ | _ | i
                    · show 0 ≤ (a : Int) ∧ (a : Int) ≤ 15; omega
                    · show 0 ≤ (e : Int) ∧ (e : Int) ≤ 15; omega
                    · exact absurd (show i + 1 + 1 < 2 from hi) (by omega), hrn⟩
                  have hsz : wr.heap.size ≤ (wr.alloc (.cells (intsV [(a : Int), (e : Int)]).toArray 3)).heap.size := hn.size
                  have hbs := hbw.size
                  have HHO := Lib.hid (refHolds_any r [(a : Int), (e : Int)] hfit _ _ (.slice (some ⟨wr.heap.size, 0, none⟩) 2 2) (wr.alloc (.cells (intsV [(a : Int), (e : Int)]).toArray 3)) (B := (wr.alloc (.cells (intsV [(a : Int), (e : Int)]).toArray 3)).heap.size) ((HR.out.below (hbw.trans (hn.mono hbs)) hB).mono (by omega)) (ints_block hk (by simp)) (Nat.le_refl _))
                  unfold ruleV at HHO
                  clear hn hk hfit
                  go_wp2_with (first | (go_at_call 61; (with_reducible refine (HH0.out _).mono ?_); rintro ee w' ⟨rfl, hww⟩; rw [hww]; clear hww w') | (go_at_call 61; (with_reducible refine (HH1.out _).mono ?_); rintro ee w' ⟨rfl, hww⟩; rw [hww]; clear hww w'))
                  refine HHO.out.mono ?_
                  rintro ee w9 ⟨rfl, hb9⟩
                  have hb9' := HNW.out.trans (hb9.mono hsz)
                  have HB9 := Lib.hid (HBE.out.trans (hb9'.mono (by have := HBE.out.size; omega))); have K9 := Lib.hid (heap_later KE.out hb9' zr)
                  clear hb9 hb9' hsz
                  cases hH : holdsD r [(a : Int), (e : Int)]
                  · have HH := Lib.hid hH
                    clear hH
                    go_wp2
                    go_roundw
                    case rel => exact ⟨e + 1, by omega, by go_num, fun b2 h => if hh : b2 = e then (by subst hh; exact pairOk_h HH.out) else HEL.out b2 (by omega), K9.out, HB9.out⟩
                    case measure => simp [intOf]; omega
                  · have HC : Hid (canD r ds = true) := Lib.hid (HPQ.out.2 ⟨a, e, hlt, hle, HA.out, HE.out, hH⟩)
                    clear hH
                    go_wp2
                    go_ret
                    exact ⟨by rw [HP.out, HC.out]; rfl, HBR.out.trans (HB9.out.mono hBs)⟩
            · have he2 : e = 16 := by omega
              subst he2
              go_wp2
              go_roundw
              case rel => exact ⟨a + 1, by omega, by go_num, fun a' b' h1 h2 => if hh : a' = a then (by subst hh; exact HEL.out b' h2) else HAL.out a' b' (by omega) h2, KE.out, HBE.out⟩
              case measure => simp [intOf]; omega
        · have ha2 : a = 16 := by omega
          subst ha2
          have HC : Hid (canD r ds = false) := Lib.hid (by
            rw [Bool.eq_false_iff]
            intro hc
            obtain ⟨a', b', h1, h2, h3, h4, h5⟩ := HPQ.out.1 hc
            have hp := HAL.out a' b' h1 h2
            unfold pairOk at hp
            rw [h3, h4, h5] at hp; cases hp)
          go_wp2
          go_ret
          exact ⟨by rw [HP.out, HC.out]; rfl, HBR.out.trans (HBA.out.mono hBs)⟩
theorem refCan_any (r : Dr) {n : Int} (hr0 : ruleD r n = true) (ds : List Nat) (hlen : ds.length = r.vars.length) (hds : ∀ i, i < ds.length → nget ds i < 65536) (vv nv dv : Value) (w : World) {B : Nat} (hr : RuleAt w B r vv nv) (hd : Us w B dv ds) (hB : B ≤ w.heap.size) :
    Gives Tryz.prog 112 #[ruleV r vv nv, dv] w (.bool (possD r ds)) := by
  by_cases k1 : r.kind = 1
  · exact refCan1 r hr0 ds hlen hds vv nv dv w hr hd hB k1
  by_cases k2 : r.kind = 2
  · exact refCan2 r hr0 ds hlen hds vv nv dv w hr hd hB k2
  exact refCan3 r hr0 ds hlen hds vv nv dv w hr hd hB ⟨k1, k2⟩
end Go.Proofs.YtdmmegmkdhinjaaGreatDoor
