/- The law SetsSolves, walked. -/
import Derived.Test.YtilbbnjfaoldoaaGreatDoorRefR
import Derived.Test.YtilbbnjfaoldoaaGreatDoorLawB
namespace Go.Proofs.YtilbbnjfaoldoaaGreatDoor
open Go Go.RowKit
attribute [local go_sem] cell_grow u64_sAnd u64_sOr u64_sDiff sDiff_all zeqI zneI sAnd_bit_zero sAnd_bit_zeroN sAnd_bit_nonzero rowOf_grow rowOk_grow rowOf_alloc rowOk_alloc

/-- How many elements are open in the first bounds. -/
def opnC (b : List Bnd) : Nat → Nat
  | 0 => 0
  | k + 1 => opnC b k + cntN (sDiff (bget b k).can (bget b k).inn) 12
theorem opnC_le (b : List Bnd) : ∀ k, opnC b k ≤ k * 12
  | 0 => Nat.le_refl _
  | k + 1 => by have := opnC_le b k; have := cntN_le (sDiff (bget b k).can (bget b k).inn) 12; unfold opnC; omega
set_option maxRecDepth 100000 in
set_option maxHeartbeats 1000000 in
theorem open_any (p : Prob) (bv rv : Value) (w : World) {B : Nat} (hbv : Bnds w B bv p.bounds) (hB : B ≤ w.heap.size) (hub : U64s p.bounds) (h9 : p.bounds.length ≤ 9) :
    Gives Tryz.prog 5 #[.agg #[bv, rv]] w (.int .i64 ((opnC p.bounds p.bounds.length : Nat) : Int)) := by
  unfold Gives
  have HBV := Lib.hid hbv; have HUB := Lib.hid hub
  obtain ⟨ba, bc, rfl⟩ := hbv.slice
  clear hbv hub
  have K0 := Lib.hid (heap_new0 w (.cells #[.slice ba p.bounds.length bc, rv] 25)); have HB0 := Lib.hid (Below.new1 w (.cells #[.slice ba p.bounds.length bc, rv] 25))
  go_enter Tryz.func5, Tryz.ntmps5
  go_wp2_with fail
  go_loopw [3, 4] (fun nv iv wr => ∃ k : Nat, k ≤ p.bounds.length ∧ iv = .int .i64 k ∧ nv = .int .i64 ((opnC p.bounds k : Nat) : Int) ∧ wr.heap[w.heap.size]? = some (.cells #[.slice ba p.bounds.length bc, rv] 25 (0, 0)) ∧ Below w.heap.size w wr) (fun _ iv _ => p.bounds.length - (intOf iv).toNat)
  case atStart => exact ⟨0, Nat.zero_le _, rfl, rfl, K0.out, HB0.out⟩
  case round =>
    clear K0 HB0
    obtain ⟨k, hk, rfl, rfl, k0, hb⟩ := hrel
    have z0 : w.heap.size < wr.heap.size := (Array.getElem?_eq_some_iff.1 k0).1
    have c0 : wr.cell? ⟨w.heap.size, 0, none⟩ = some (.slice ba p.bounds.length bc) := by rw [cell_of_row _ _ _ _ _ _ k0]; rfl
    have hoc := opnC_le p.bounds k
    have K0 := Lib.hid k0; have HB := Lib.hid hb
    by_cases hlt : k < p.bounds.length
    · obtain ⟨_, a', c', hae, _, _, hrow⟩ := HBV.out.below hb hB
      cases hae
      obtain ⟨vb, vo, rfl, hvB, hvcell⟩ := hrow (by omega)
      have q0 : wr.cell? ⟨vb, vo + k * 2, none⟩ = some (.int .u64 ((bget p.bounds k).inn : Nat)) := by rw [hvcell _ (by omega), bcellAt_inn]
      have q1 : wr.cell? ⟨vb, vo + k * 2 + 1, none⟩ = some (.int .u64 ((bget p.bounds k).can : Nat)) := by rw [← bcellAt_can]; exact hvcell (k * 2 + 1) (by omega)
      have zv : vb < wr.heap.size := by omega
      have hu1 := (HUB.out.get k).1
      have hu2 := (HUB.out.get k).2
      have HC := Lib.hid (fun (d : Nat) (os : Array Obj) => Gives.of_same (count_any (sDiff (bget p.bounds k).can (bget p.bounds k).inn) (Go.Sort.grow (redrawn wr d) os) hu2.diff))
      obtain ⟨c, hc⟩ : ∃ c, c = cntN (sDiff (bget p.bounds k).can (bget p.bounds k).inn) 12 := ⟨_, rfl⟩
      have hc12 : c ≤ 12 := by rw [hc]; exact cntN_le _ _
      have HS : Hid (opnC p.bounds (k + 1) = opnC p.bounds k + c) := Lib.hid (by rw [hc]; rfl)
      rw [← hc] at HC
      obtain ⟨n, hn⟩ : ∃ n, n = opnC p.bounds k := ⟨_, rfl⟩
      rw [← hn] at HS hoc ⊢
      clear hrow hvcell k0 hb hc hn
      go_wp2_with fail
      refine wp_region_qb (by kernel_rfl) (by kernel_rfl) ?_
      repeat go_big_quiet_step ((with_reducible exact Gives.quiet (HC.out _ _)))
      refine wpQuiet_nil ?_
      intro w4 hb4
      have HB4 := Lib.hid (HB.out.trans (hb4.mono HB.out.size)); have K4 := Lib.hid (heap_later K0.out hb4 z0)
      clear hb4 c0 q0 q1
      go_wp2
      go_roundw
      case rel => exact ⟨k + 1, by omega, by go_num, by rw [HS.out]; go_num, K4.out, HB4.out⟩
      case measure => simp [intOf]; omega
    · have hk2 : k = p.bounds.length := by omega
      subst hk2
      clear k0 hb
      go_wp2
      go_ret
      exact ⟨rfl, HB.out⟩
theorem inB_no {most : Int} (h : inB most 1 100 = false) : most < 1 ∨ 100 < most := by
  unfold inB at h
  rw [Bool.and_eq_false_iff, decide_eq_false_iff_not, decide_eq_false_iff_not] at h
  omega
theorem inB_lim {most : Int} (h : inB most 1 100 = true) : 1 ≤ most ∧ most ≤ 100 := by
  unfold inB at h
  simpa using h
theorem small_len {p : Prob} (h : smallOk p = true) : p.bounds.length ≤ 9 := by
  unfold smallOk at h
  simp only [Bool.and_eq_true, decide_eq_true_eq] at h
  exact h.1.1
theorem searchR_few {p : Prob} (hp : probOk p = true) (most : Int) : Few p.bounds.length (searchR p most) :=
  nodeR_few p hp most _ _ _ (padB_length (probOk_fit hp).2.1) (probOk_fit hp).2.2.2.2.pad (probOk_sub hp) (Few.start _)
theorem few_uss {w : World} {base : Nat} {v : Value} {n : Nat} {s : Fnd} (hf : Few n s) (hn : n ≤ 8) (h : SOwn w base v s.sols) : Uss w w.heap.size v s.sols :=
  h.uss (by have := hf.1; have := hf.2.1; omega) fun i hi => by
    have := (hf.2.2 (s.sols[i]) (List.getElem_mem hi)).1
    rw [show sget s.sols i = s.sols[i] by simp [sget, hi], this]; omega
/-- What a slice of nothing looks like. -/
theorem ints_empty {w : World} {B : Nat} {v : Value} (h : Ints w B v []) : ∃ a c, v = .slice a 0 c := by obtain ⟨a, c, h⟩ := h.slice; exact ⟨a, c, h⟩
end Go.Proofs.YtilbbnjfaoldoaaGreatDoor
