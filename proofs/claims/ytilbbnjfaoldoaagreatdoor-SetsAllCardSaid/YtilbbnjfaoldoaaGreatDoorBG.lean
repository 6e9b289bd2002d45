/- The reference's comparisons of two lists. · The reference's comparison of two lists of bounds. · The reference's comparison of two lists of sets. · What the functions of package sets compute of the chapter's examples. · works: the chapter's examples hold. · The reference: in, Set, asks, Rule. · The reference: Prob, Small, all. · The reference: Has, Count, of, fits. · The reference: fits. -/
import Derived.Test.YtilbbnjfaoldoaaGreatDoorBF
import Derived.Deep.Cut
namespace Go.Proofs.YtilbbnjfaoldoaaGreatDoor
open Go Go.RowKit
attribute [local go_sem] cell_grow u64_sAnd u64_sOr u64_sDiff sDiff_all zeqI zneI sAnd_bit_zero sAnd_bit_zeroN sAnd_bit_nonzero rowOf_grow rowOk_grow rowOf_alloc rowOk_alloc

def sameI (a b : List Int) : Bool := decide (a = b)
theorem sameI_len {a b : List Int} (h : a.length ≠ b.length) : sameI a b = false := by unfold sameI; exact decide_eq_false fun e => h (by rw [e])
theorem sameI_no {a b : List Int} {k : Nat} (h : iget a k ≠ iget b k) : sameI a b = false := by unfold sameI; exact decide_eq_false fun e => h (by rw [e])
theorem sameI_yes {a b : List Int} (hl : a.length = b.length) (h : ∀ i, i < a.length → iget a i = iget b i) : sameI a b = true := by
  unfold sameI
  apply decide_eq_true
  apply List.ext_getElem hl
  intro i h1 h2
  have := h i h1
  simpa [iget, h1, h2] using this
set_option maxRecDepth 100000 in
set_option maxHeartbeats 400000 in
theorem sameInts_any (a b : List Int) (av bv : Value) (w : World) {B : Nat} (ha : Ints w B av a) (hb : Ints w B bv b) (hB : B ≤ w.heap.size) : Gives Tryz.prog 24 #[av, bv] w (.bool (sameI a b)) := by
  unfold Gives
  obtain ⟨hna, aa, ac, rfl, _, _, hra⟩ := ha.mono hB
  obtain ⟨hnb, ba, bc, rfl, _, _, hrb⟩ := hb.mono hB
  clear ha hb
  by_cases hl : a.length = b.length
  · rw [← hl] at hrb hnb ⊢
    have HL := Lib.hid hl
    clear hl
    have HRA := Lib.hid hra; have HRB := Lib.hid hrb
    clear hra hrb
    go_enter Tryz.func24, Tryz.ntmps24
    go_wp2_with fail
    go_loopw [5] (fun i wr => ∃ k : Nat, k ≤ a.length ∧ i = .int .i64 k ∧ (∀ j, j < k → iget a j = iget b j) ∧ Below w.heap.size w wr) (fun i _ => a.length - (intOf i).toNat)
    case atStart => exact ⟨0, Nat.zero_le _, rfl, fun j hj => absurd hj (Nat.not_lt_zero _), Below.refl _ _⟩
    case round =>
      obtain ⟨k, hk, rfl, hall, hb⟩ := hrel
      by_cases hlt : k < a.length
      · obtain ⟨p, po, rfl, hp, hpc⟩ := HRA.out (by omega)
        obtain ⟨q, qo, rfl, hq, hqc⟩ := HRB.out (by omega)
        have c0 : wr.cell? ⟨p, po + k, none⟩ = some (.int .i64 (iget a k)) := (hb.cell (p := ⟨p, po + k, none⟩) hp).trans (hpc k (by omega))
        have c1 : wr.cell? ⟨q, qo + k, none⟩ = some (.int .i64 (iget b k)) := (hb.cell (p := ⟨q, qo + k, none⟩) hq).trans (hqc k (by omega))
        have zp : p < wr.heap.size := by have := hb.size; omega
        have zq : q < wr.heap.size := by have := hb.size; omega
        have HALL := Lib.hid hall; have HB := Lib.hid hb
        clear hpc hqc hall hb
        by_cases he : iget a k = iget b k
        · have HE := Lib.hid he
          have e1 : (iget a k != iget b k) = false := by rw [he]; simp
          clear he
          go_wp2_with fail
          refine wp_region_qb (by kernel_rfl) (by kernel_rfl) ?_
          repeat go_big_quiet_step (fail)
          refine wpQuiet_nil ?_
          intro w2 hb2
          have HB2 := Lib.hid (HB.out.trans (hb2.mono HB.out.size))
          clear hb2
          go_wp2
          go_roundw
          case rel => exact ⟨k + 1, by omega, by go_num, fun j hj => if h : j = k then h ▸ HE.out else HALL.out j (by omega), HB2.out⟩
          case measure => simp [intOf]; omega
        · have HE := Lib.hid he
          have e1 : (iget a k != iget b k) = true := by simp [he]
          clear he
          go_wp2_with fail
          refine wp_region_qb (by kernel_rfl) (by kernel_rfl) ?_
          repeat go_big_quiet_step (fail)
          refine wpQuiet_nil ?_
          intro w2 hb2
          have HB2 := Lib.hid (HB.out.trans (hb2.mono HB.out.size))
          clear hb2
          go_wp2
          go_ret
          exact ⟨by rw [sameI_no HE.out]; rfl, HB2.out⟩
      · have hk2 : k = a.length := by omega
        subst hk2
        have HS := Lib.hid (sameI_yes HL.out hall); have HB := Lib.hid hb
        clear hall hb
        go_wp2
        go_ret
        exact ⟨by rw [HS.out]; rfl, HB.out⟩
  · have HS := Lib.hid (sameI_len hl)
    have e1 : (((a.length : Nat) : Int) != ((b.length : Nat) : Int)) = true := by rw [int_bne]; simp [hl]
    have hl2 : ¬ ((a.length : Int) = (b.length : Int)) := by omega
    clear hra hrb
    go_enter Tryz.func24, Tryz.ntmps24
    go_wp2
    go_ret
    exact ⟨by rw [HS.out]; rfl, Below.refl _ _⟩
end Go.Proofs.YtilbbnjfaoldoaaGreatDoor

namespace Go.Proofs.YtilbbnjfaoldoaaGreatDoor
open Go Go.RowKit
attribute [local go_sem] cell_grow u64_sAnd u64_sOr u64_sDiff sDiff_all zeqI zneI sAnd_bit_zero sAnd_bit_zeroN sAnd_bit_nonzero rowOf_grow rowOk_grow rowOf_alloc rowOk_alloc

theorem eq_bnd2 (x y : Bnd) (w : World) : (Op.equalIn 10000 47 (.agg #[.int .u64 (x.inn : Nat), .int .u64 (x.can : Nat)]) (.agg #[.int .u64 (y.inn : Nat), .int .u64 (y.can : Nat)])).run Tryz.prog w = .ok (decide (x = y)) w := by
  have u3 := Tryz.underlying38
  have a3 := Tryz.isAgg38
  have z3 := Tryz.sizeOf38
  have hS : Tryz.prog.underlying 47 = some (.struct (Tryz.prog.fieldsOf 47)) := by kernel_rfl
  have hp : Tryz.prog.stoodInHeld 47 = false := by kernel_rfl
  rw [show (10000 : Nat) = 9999 + 1 from rfl, run_equalIn_agg w 9999 47 _ _ hS hp]
  simp only [Program.fieldsOf, Tryz.underlying47]
  go_simp
  obtain ⟨a, b⟩ := x
  obtain ⟨c, d⟩ := y
  by_cases h1 : a = c <;> by_cases h2 : b = d <;> simp [h1, h2] <;> omega
theorem run_neq_bnd (x y : Bnd) (w : World) : (binOp .neq 47 (.agg #[.int .u64 (x.inn : Nat), .int .u64 (x.can : Nat)]) (.agg #[.int .u64 (y.inn : Nat), .int .u64 (y.can : Nat)])).run Tryz.prog w = .ok (.bool (!decide (x = y))) w := by
  rw [run_neq_struct, eq_bnd2]; rfl
def sameB (a b : List Bnd) : Bool := decide (a = b)
theorem sameB_len {a b : List Bnd} (h : a.length ≠ b.length) : sameB a b = false := by unfold sameB; exact decide_eq_false fun e => h (by rw [e])
theorem sameB_no {a b : List Bnd} {k : Nat} (h : bget a k ≠ bget b k) : sameB a b = false := by unfold sameB; exact decide_eq_false fun e => h (by rw [e])
theorem sameB_yes {a b : List Bnd} (hl : a.length = b.length) (h : ∀ i, i < a.length → bget a i = bget b i) : sameB a b = true := by
  unfold sameB
  apply decide_eq_true
  apply List.ext_getElem hl
  intro i h1 h2
  have := h i h1
  simpa [bget, h1, h2] using this
set_option maxRecDepth 100000 in
set_option maxHeartbeats 400000 in
theorem sameBounds_any (a b : List Bnd) (av bv : Value) (w : World) {B : Nat} (ha : Bnds w B av a) (hb : Bnds w B bv b) (hB : B ≤ w.heap.size) : Gives Tryz.prog 23 #[av, bv] w (.bool (sameB a b)) := by
  unfold Gives
  obtain ⟨hna, aa, ac, rfl, _, _, hra⟩ := ha.mono hB
  obtain ⟨hnb, ba, bc, rfl, _, _, hrb⟩ := hb.mono hB
  clear ha hb
  by_cases hl : a.length = b.length
  · rw [← hl] at hrb hnb ⊢
    have HL := Lib.hid hl
    clear hl
    have HRA := Lib.hid hra; have HRB := Lib.hid hrb
    clear hra hrb
    go_enter Tryz.func23, Tryz.ntmps23
    go_wp2_with fail
    go_loopw [5] (fun i wr => ∃ k : Nat, k ≤ a.length ∧ i = .int .i64 k ∧ (∀ j, j < k → bget a j = bget b j) ∧ Below w.heap.size w wr) (fun i _ => a.length - (intOf i).toNat)
    case atStart => exact ⟨0, Nat.zero_le _, rfl, fun j hj => absurd hj (Nat.not_lt_zero _), Below.refl _ _⟩
    case round =>
      obtain ⟨k, hk, rfl, hall, hb⟩ := hrel
      by_cases hlt : k < a.length
      · obtain ⟨p, po, rfl, hp, hpc⟩ := HRA.out (by omega)
        obtain ⟨q, qo, rfl, hq, hqc⟩ := HRB.out (by omega)
        have c0 : wr.cell? ⟨p, po + k * 2, none⟩ = some (.int .u64 ((bget a k).inn : Nat)) := by rw [hb.cell (p := ⟨p, po + k * 2, none⟩) hp, hpc (k * 2) (by omega), bcellAt_inn]
        have c1 : wr.cell? ⟨q, qo + k * 2, none⟩ = some (.int .u64 ((bget b k).inn : Nat)) := by rw [hb.cell (p := ⟨q, qo + k * 2, none⟩) hq, hqc (k * 2) (by omega), bcellAt_inn]
        have c2 : wr.cell? ⟨p, po + k * 2 + 1, none⟩ = some (.int .u64 ((bget a k).can : Nat)) := by rw [hb.cell (p := ⟨p, po + k * 2 + 1, none⟩) hp, ← bcellAt_can]; exact hpc (k * 2 + 1) (by omega)
        have c3 : wr.cell? ⟨q, qo + k * 2 + 1, none⟩ = some (.int .u64 ((bget b k).can : Nat)) := by rw [hb.cell (p := ⟨q, qo + k * 2 + 1, none⟩) hq, ← bcellAt_can]; exact hqc (k * 2 + 1) (by omega)
        have zp : p < wr.heap.size := by have := hb.size; omega
        have zq : q < wr.heap.size := by have := hb.size; omega
        have HALL := Lib.hid hall; have HB := Lib.hid hb
        have hneq := run_neq_bnd (bget a k) (bget b k)
        clear hpc hqc hall hb
        by_cases he : bget a k = bget b k
        · have HE := Lib.hid he
          rw [show decide (bget a k = bget b k) = true from decide_eq_true he] at hneq
          clear he
          go_wp2_with fail
          refine wp_region_qb (by kernel_rfl) (by kernel_rfl) ?_
          repeat go_big_quiet_step (fail)
          refine wpQuiet_nil ?_
          intro w2 hb2
          have HB2 := Lib.hid (HB.out.trans (hb2.mono HB.out.size))
          clear hb2 hneq
          go_wp2
          go_roundw
          case rel => exact ⟨k + 1, by omega, by go_num, fun j hj => if h : j = k then h ▸ HE.out else HALL.out j (by omega), HB2.out⟩
          case measure => simp [intOf]; omega
        · have HE := Lib.hid he
          rw [show decide (bget a k = bget b k) = false from decide_eq_false he] at hneq
          clear he
          go_wp2_with fail
          refine wp_region_qb (by kernel_rfl) (by kernel_rfl) ?_
          repeat go_big_quiet_step (fail)
          refine wpQuiet_nil ?_
          intro w2 hb2
          have HB2 := Lib.hid (HB.out.trans (hb2.mono HB.out.size))
          clear hb2 hneq
          go_wp2
          go_ret
          exact ⟨by rw [sameB_no HE.out]; rfl, HB2.out⟩
      · have hk2 : k = a.length := by omega
        subst hk2
        have HS := Lib.hid (sameB_yes HL.out hall); have HB := Lib.hid hb
        clear hall hb
        go_wp2
        go_ret
        exact ⟨by rw [HS.out]; rfl, HB.out⟩
  · have HS := Lib.hid (sameB_len hl)
    have hl2 : ¬ ((a.length : Int) = (b.length : Int)) := by omega
    clear hra hrb
    go_enter Tryz.func23, Tryz.ntmps23
    go_wp2
    go_ret
    exact ⟨by rw [HS.out]; rfl, Below.refl _ _⟩
end Go.Proofs.YtilbbnjfaoldoaaGreatDoor

namespace Go.Proofs.YtilbbnjfaoldoaaGreatDoor
open Go Go.RowKit
attribute [local go_sem] cell_grow u64_sAnd u64_sOr u64_sDiff sDiff_all zeqI zneI sAnd_bit_zero sAnd_bit_zeroN sAnd_bit_nonzero rowOf_grow rowOk_grow rowOf_alloc rowOk_alloc

/-- A slice of lists of sets. -/
def Uss (w : World) (B : Nat) (v : Value) (ss : List (List Nat)) : Prop := ∃ c, Row w B 1 v ss.length c ∧ ∀ i, i < ss.length → Us w B (c i) (sget ss i)
theorem Uss.below {w w' : World} {B : Nat} {v : Value} {xs : List (List Nat)} (h : Uss w B v xs) {B' : Nat} (hb : Below B' w w') (hB : B ≤ B') : Uss w' B v xs :=
  let ⟨c, hr, hc⟩ := h
  ⟨c, hr.below hb hB, fun i hi => (hc i hi).below hb hB⟩
theorem Uss.mono {w : World} {B : Nat} {v : Value} {xs : List (List Nat)} (h : Uss w B v xs) {B' : Nat} (hB : B ≤ B') : Uss w B' v xs :=
  let ⟨c, hr, hc⟩ := h
  ⟨c, hr.mono hB, fun i hi => (hc i hi).mono hB⟩
theorem natsV_get (xs : List Nat) (i : Nat) (h : i < xs.length) : (natsV xs)[i]? = some (.int .u64 (nget xs i : Nat)) := by simp [natsV, natV, nget, h]
theorem ownsRow_us {w : World} {base : Nat} {v : Value} {xs : List Nat} {n : Nat} (h : w.ownsRow base 38 1 v n (natsV xs)) (hn : n ≤ 140737488355328) (hl : xs.length = n) : Us w w.heap.size v xs := by
  subst hl
  exact ownsRow_row h hn fun i hi => natsV_get xs i (by omega)
theorem SOwn.uss {w : World} {base : Nat} {v : Value} {ss : List (List Nat)} (h : SOwn w base v ss) (hn : ss.length ≤ 1000) (hs : ∀ i, i < ss.length → (sget ss i).length ≤ 1000) : Uss w w.heap.size v ss := by
  obtain ⟨cs, h1, h2⟩ := h
  refine ⟨fun i => cs[i]?.getD undef, ownsRow_row h1 (by omega) (fun i hi => ?_), fun i hi => ?_⟩
  · have : i < cs.length := by rw [h1.1]; exact hi
    rw [List.getElem?_eq_getElem this]; rfl
  · obtain ⟨yv, e5, e6⟩ := h2 i hi
    have := hs i hi
    simp only [e5, Option.getD_some]
    exact ownsRow_us e6 (by omega) rfl
def sameS (a b : List (List Nat)) : Bool := decide (a = b)
theorem sameS_len {a b : List (List Nat)} (h : a.length ≠ b.length) : sameS a b = false := by unfold sameS; exact decide_eq_false fun e => h (by rw [e])
theorem sameS_no {a b : List (List Nat)} {k : Nat} (h : sget a k ≠ sget b k) : sameS a b = false := by unfold sameS; exact decide_eq_false fun e => h (by rw [e])
theorem sameS_yes {a b : List (List Nat)} (hl : a.length = b.length) (h : ∀ i, i < a.length → sget a i = sget b i) : sameS a b = true := by
  unfold sameS
  apply decide_eq_true
  apply List.ext_getElem hl
  intro i h1 h2
  have := h i h1
  simpa [sget, h1, h2] using this
theorem nat_ext {a b : List Nat} (hl : a.length = b.length) (h : ∀ i, i < a.length → nget a i = nget b i) : a = b := by
  apply List.ext_getElem hl
  intro i h1 h2
  have := h i h1
  simpa [nget, h1, h2] using this
theorem uss_cell {w wr : World} {B : Nat} {v : Value} {ss : List (List Nat)} (h : Uss w B v ss) (hB : B ≤ w.heap.size) (hb : Below w.heap.size w wr) {k : Nat} (hk : k < ss.length) :
    ∃ p po q n c, v = .slice (some ⟨p, po, none⟩) ss.length n ∧ p < wr.heap.size ∧ wr.cell? ⟨p, po + k, none⟩ = some (.slice q (sget ss k).length c) ∧ Us wr B (.slice q (sget ss k).length c) (sget ss k) ∧ (sget ss k).length ≤ 140737488355328 := by
  obtain ⟨c, ⟨hn, a, cap, rfl, _, _, hr⟩, hc⟩ := h
  obtain ⟨p, po, rfl, hp, hpc⟩ := hr (by omega)
  have hu := (hc k hk)
  obtain ⟨q, cc, hq⟩ := hu.slice
  have hl : (sget ss k).length ≤ 140737488355328 := hu.1
  rw [hq] at hu
  refine ⟨p, po, q, cap, cc, rfl, by have := hb.size; omega, ?_, hu.below hb hB, hl⟩
  rw [hb.cell (p := ⟨p, po + k, none⟩) (by show p < w.heap.size; omega), hpc k (by omega), hq]
set_option maxRecDepth 100000 in
set_option maxHeartbeats 1000000 in
theorem sameSets_any (a b : List (List Nat)) (av bv : Value) (w : World) {B : Nat} (ha : Uss w B av a) (hb : Uss w B bv b) (hB : B ≤ w.heap.size) : Gives Tryz.prog 12 #[av, bv] w (.bool (sameS a b)) := by
  unfold Gives
  have HA := Lib.hid ha; have HBB := Lib.hid hb
  obtain ⟨ca, ⟨hna, aa, ac, rfl, _, _, _⟩, _⟩ := ha
  obtain ⟨cb, ⟨hnb, ba, bc, rfl, _, _, _⟩, _⟩ := hb
  by_cases hl : a.length = b.length
  · have HL := Lib.hid hl
    rw [← hl] at HBB ⊢
    clear hl
    go_enter Tryz.func12, Tryz.ntmps12
    go_wp2_with fail
    go_loopw [5] (fun i wr => ∃ k : Nat, k ≤ a.length ∧ i = .int .i64 k ∧ (∀ j, j < k → sget a j = sget b j) ∧ Below w.heap.size w wr) (fun i _ => a.length - (intOf i).toNat)
    case atStart => exact ⟨0, Nat.zero_le _, rfl, fun j hj => absurd hj (Nat.not_lt_zero _), Below.refl _ _⟩
    case round =>
      obtain ⟨k, hk, rfl, hall, hb⟩ := hrel
      obtain ⟨wo, rfl⟩ : ∃ wo : World, wo = wr := ⟨_, rfl⟩
      by_cases hlt : k < a.length
      · obtain ⟨p, po, qa, na, cqa, hav, zp, c0, ua, la⟩ := uss_cell HA.out hB hb hlt
        obtain ⟨q, qo, qb, nb, cqb, hbv, zq, c1, ub, lb⟩ := uss_cell (HBB.out) hB hb (k := k) (by rw [← HL.out]; exact hlt)
        cases hav
        simp only [Value.slice.injEq] at hbv
        obtain ⟨rfl, hx, rfl⟩ := hbv
        clear hx
        have HALL := Lib.hid hall; have HB := Lib.hid hb; have UA := Lib.hid ua; have UB := Lib.hid ub
        clear hall hb ua ub
        by_cases hln : (sget a k).length = (sget b k).length
        · have HLN := Lib.hid hln
          have hli : (((sget a k).length : Int) == ((sget b k).length : Int)) = true := by rw [hln]; simp
          rw [← hln] at c1
          have C0 := Lib.hid c0; have C1 := Lib.hid c1
          clear hln hli
          go_wp2_with fail
          refine wp_region_qb (by kernel_rfl) (by kernel_rfl) ?_
          repeat go_big_quiet_step (fail)
          refine wpQuiet_nil ?_
          intro w2 hb2
          have d0 : True := trivial
          have HB2 := Lib.hid (HB.out.trans (hb2.mono HB.out.size)); have HBI := Lib.hid hb2
          have zp2 : p < w2.heap.size := by have := hb2.size; omega
          clear hb2 c0 c1 d0
          have HC0 := Lib.hid (((bcell HBI.out).1 p (po + k) zp).trans C0.out); have HC1 := Lib.hid (((bcell HBI.out).1 q (qo + k) zq).trans C1.out)
          go_wp2_with fail
          go_loopw [6] (fun i wr => ∃ m : Nat, m ≤ (sget a k).length ∧ i = .int .i64 m ∧ (∀ j, j < m → nget (sget a k) j = nget (sget b k) j) ∧ Below wo.heap.size wo wr) (fun i _ => (sget a k).length - (intOf i).toNat)
          case atStart => exact ⟨0, Nat.zero_le _, rfl, fun j hj => absurd hj (Nat.not_lt_zero _), HBI.out⟩
          case round =>
            obtain ⟨m, hm, rfl, hall, hbi⟩ := hrel
            have d0 := ((bcell hbi).1 p (po + k) zp).trans C0.out
            have d1 := ((bcell hbi).1 q (qo + k) zq).trans C1.out
            have zp2 : p < wr.heap.size := by have := hbi.size; omega
            have zq2 : q < wr.heap.size := by have := hbi.size; omega
            by_cases hmt : m < (sget a k).length
            · obtain ⟨_, a', c', hae, _, _, hra⟩ := UA.out.below hbi (by have := HB.out.size; omega)
              simp only [Value.slice.injEq] at hae
              obtain ⟨rfl, hx, rfl⟩ := hae
              obtain ⟨pa, poa, rfl, hpa, hpca⟩ := hra (by omega)
              obtain ⟨_, b', cb', hbe, _, _, hrb⟩ := UB.out.below hbi (by have := HB.out.size; omega)
              simp only [Value.slice.injEq] at hbe
              obtain ⟨rfl, hx2, rfl⟩ := hbe
              obtain ⟨pb, pob, rfl, hpb, hpcb⟩ := hrb (by rw [← HLN.out]; omega)
              have e0 := hpca m (by omega)
              have e1 := hpcb m (by rw [← HLN.out]; omega)
              have za : pa < wr.heap.size := by have := hbi.size; have := HB.out.size; omega
              have zb : pb < wr.heap.size := by have := hbi.size; have := HB.out.size; omega
              have HALL2 := Lib.hid hall; have HBI2 := Lib.hid hbi
              clear hx hx2 hra hpca hrb hpcb hall hbi
              by_cases he : nget (sget a k) m = nget (sget b k) m
              · have HE := Lib.hid he
                have f1 : (((nget (sget a k) m : Nat) : Int) != ((nget (sget b k) m : Nat) : Int)) = false := by rw [int_bne]; simp [he]
                clear he
                go_wp2_with fail
                refine wp_region_qb (by kernel_rfl) (by kernel_rfl) ?_
                repeat go_big_quiet_step (fail)
                refine wpQuiet_nil ?_
                intro w4 hb4
                have HB4 := Lib.hid (HBI2.out.trans (hb4.mono HBI2.out.size))
                clear hb4
                go_wp2
                go_roundw
                case rel => exact ⟨m + 1, by omega, by go_num, fun j hj => if h : j = m then h ▸ HE.out else HALL2.out j (by omega), HB4.out⟩
                case measure => simp [intOf]; omega
              · have HE := Lib.hid (sameS_no (a := a) (b := b) (k := k) (fun h => he (by rw [h])))
                have f1 : (((nget (sget a k) m : Nat) : Int) != ((nget (sget b k) m : Nat) : Int)) = true := by rw [int_bne]; simp [he]
                clear he
                go_wp2_with fail
                refine wp_region_qb (by kernel_rfl) (by kernel_rfl) ?_
                repeat go_big_quiet_step (fail)
                refine wpQuiet_nil ?_
                intro w4 hb4
                have HB4 := Lib.hid (HB.out.trans ((HBI2.out.trans (hb4.mono HBI2.out.size)).mono HB.out.size))
                clear hb4
                go_wp2
                go_ret
                exact ⟨by rw [HE.out]; rfl, HB4.out⟩
            · have hm2 : m = (sget a k).length := by omega
              subst hm2
              have HE := Lib.hid (nat_ext HLN.out hall); have HBX := Lib.hid (HB.out.trans (hbi.mono HB.out.size))
              clear hall hbi
              go_wp2
              go_roundw
              case rel => exact ⟨k + 1, by omega, by go_num, fun j hj => if h : j = k then h ▸ HE.out else HALL.out j (by omega), HBX.out⟩
              case measure => simp [intOf]; omega
        · have HE := Lib.hid (sameS_no (a := a) (b := b) (k := k) (fun h => hln (by rw [h])))
          have hl3 : ¬ (((sget a k).length : Int) = ((sget b k).length : Int)) := by omega
          go_wp2_with fail
          refine wp_region_qb (by kernel_rfl) (by kernel_rfl) ?_
          repeat go_big_quiet_step (fail)
          refine wpQuiet_nil ?_
          intro w2 hb2
          have HB2 := Lib.hid (HB.out.trans (hb2.mono HB.out.size))
          clear hb2
          go_wp2
          go_ret
          exact ⟨by rw [HE.out]; rfl, HB2.out⟩
      · have hk2 : k = a.length := by omega
        subst hk2
        have HS := Lib.hid (sameS_yes HL.out hall); have HB := Lib.hid hb
        clear hall hb
        go_wp2
        go_ret
        exact ⟨by rw [HS.out]; rfl, HB.out⟩
  · have HS := Lib.hid (sameS_len hl)
    have hl2 : ¬ ((a.length : Int) = (b.length : Int)) := by omega
    go_enter Tryz.func12, Tryz.ntmps12
    go_wp2
    go_ret
    exact ⟨by rw [HS.out]; rfl, Below.refl _ _⟩
end Go.Proofs.YtilbbnjfaoldoaaGreatDoor

namespace Go.Proofs.YtilbbnjfaoldoaaGreatDoor
open Go Go.RowKit

theorem okA : probOk pA = true := by decide +kernel
theorem okB : probOk pB = true := by decide +kernel
theorem okC : probOk pC = true := by decide +kernel
theorem valHolds : holdsR pA [3, 6, 7] = 1 ∧ holdsOk pA [3, 6, 7] = true := by decide +kernel
theorem valPropB : (propR pB).2 = -1 ∧ (propR pB).1.1.take 3 = [⟨6, 6⟩, ⟨1, 1⟩, ⟨7, 7⟩] ∧ (propR pB).1.2.length = 7 ∧ (fget (propR pB).1.2 4).rule = 3 ∧ (fget (propR pB).1.2 4).why = [1] ∧ (fget (propR pB).1.2 6).why = [5] := by decide +kernel
theorem valSolveA : searchR pA 9 = ⟨[[7, 0, 7], [3, 4, 7], [5, 2, 7], [6, 1, 7]], 7, false⟩ := by decide +kernel
theorem valCoreC : coreR pC = ([0, 1, 3, 4], 0) := by decide +kernel
end Go.Proofs.YtilbbnjfaoldoaaGreatDoor

namespace Go.Proofs.YtilbbnjfaoldoaaGreatDoor
open Go Go.RowKit
attribute [local go_sem] cell_grow u64_sAnd u64_sOr u64_sDiff sDiff_all zeqI zneI sAnd_bit_zero sAnd_bit_zeroN sAnd_bit_nonzero rowOf_grow rowOk_grow rowOf_alloc rowOk_alloc

theorem vars_short (rs : List Rl) (h : ∀ r ∈ rs, r.vars.length ≤ 1000) (i : Nat) : (rget rs i).vars.length ≤ 1000 := by
  unfold rget
  by_cases hi : i < rs.length
  · rw [List.getElem?_eq_getElem hi]; exact h _ (List.getElem_mem hi)
  · rw [List.getElem?_eq_none (by omega)]; decide
theorem shortA : ∀ i, (rget pA.rules i).vars.length ≤ 1000 := vars_short _ (by decide)
theorem shortB : ∀ i, (rget pB.rules i).vars.length ≤ 1000 := vars_short _ (by decide)
theorem shortC : ∀ i, (rget pC.rules i).vars.length ≤ 1000 := vars_short _ (by decide)
theorem u64_367 : ∀ s ∈ [3, 6, 7], U64 s := fun s hs => by
  simp only [List.mem_cons, List.not_mem_nil, or_false] at hs
  rcases hs with rfl | rfl | rfl <;> (unfold U64; omega)
theorem u64_of12 {p : Prob} (h : probOk p = true) : U64s p.bounds := (probOk_fit h).2.2.2.2.u64
theorem bnds_block {w : World} {b : Nat} {xs : List Bnd} {t : TypeId} (h : w.heap[b]? = some (.cells (bCells xs).toArray t (0, 0))) (hl : xs.length ≤ 1000) : Bnds w w.heap.size (.slice (some ⟨b, 0, none⟩) xs.length xs.length) xs :=
  ⟨by omega, _, _, rfl, Nat.le_refl _, by unfold maxLen; omega, fun _ => ⟨b, 0, rfl, (Array.getElem?_eq_some_iff.1 h).1, fun i hi => by
    rw [Nat.zero_add, cell_of_row _ _ _ _ _ _ h, List.getElem?_toArray, bCells_get _ _ hi]⟩⟩
theorem Uss.take {w : World} {B : Nat} {a : Option Addr} {n cap : Nat} {ss : List (List Nat)} (h : Uss w B (.slice a n cap) ss) {k : Nat} (hk : k ≤ ss.length) : Uss w B (.slice a k cap) (ss.take k) := by
  obtain ⟨c, hr, hc⟩ := h
  have hn : n = ss.length := by obtain ⟨_, a', cap', hv, _⟩ := hr; cases hv; rfl
  subst hn
  have e : (ss.take k).length = k := by simp; omega
  refine ⟨c, by rw [e]; exact Row.take hr hk, fun i hi => ?_⟩
  rw [e] at hi
  have : sget (ss.take k) i = sget ss i := by unfold sget; rw [List.getElem?_take, if_pos hi]
  rw [this]; exact hc i (by omega)
theorem us_block {w : World} {b : Nat} {xs : List Nat} (h : w.heap[b]? = some (.cells (natsV xs).toArray 38 (0, 0))) (hl : xs.length ≤ 1000) : Us w w.heap.size (.slice (some ⟨b, 0, none⟩) xs.length xs.length) xs :=
  ⟨by omega, _, _, rfl, Nat.le_refl _, by unfold maxLen; omega, fun _ => ⟨b, 0, rfl, (Array.getElem?_eq_some_iff.1 h).1, fun i hi => by
    rw [Nat.zero_add, cell_of_row _ _ _ _ _ _ h, List.getElem?_toArray, natsV_get xs i (by omega)]⟩⟩
theorem uss_one {w : World} {b g : Nat} {xs : List Nat} {t : TypeId} (h : w.heap[b]? = some (.cells #[.slice (some ⟨g, 0, none⟩) xs.length xs.length] t (0, 0))) (hg : w.heap[g]? = some (.cells (natsV xs).toArray 38 (0, 0))) (hl : xs.length ≤ 1000) : Uss w w.heap.size (.slice (some ⟨b, 0, none⟩) 1 1) [xs] := by
  refine ⟨fun _ => .slice (some ⟨g, 0, none⟩) xs.length xs.length, ⟨by show 1 ≤ _; decide, _, _, rfl, Nat.le_refl _, by decide, fun _ => ⟨b, 0, rfl, (Array.getElem?_eq_some_iff.1 h).1, fun i hi => ?_⟩⟩, fun i hi => ?_⟩
  · have : i = 0 := by simp at hi; omega
    subst this
    rw [cell_of_row _ _ _ _ _ _ h]; rfl
  · have : i = 0 := by simp at hi; omega
    subst this
    exact us_block hg hl
set_option maxRecDepth 100000 in
set_option maxHeartbeats 2000000 in
theorem works_any (w : World) (hT : Tab w) (hw0 : 0 < w.heap.size) : Gives Tryz.prog 6 #[] w (.bool true) := by
  unfold Gives
  have HT := Lib.hid hT
  clear hT
  go_enter Tryz.func6, Tryz.ntmps6
  go_wp2_with fail
  refine (mkA _).mono ?_
  rintro e w1 ⟨bv, rv, rfl, hm, hb1⟩
  have hn := Below.new1 w1 (.cells (natsV [3, 6, 7]).toArray 38)
  have hm2 := hm.ck (CK.below hn)
  have hb2 := hb1.trans (hn.mono hb1.size)
  have h1 := hm2.bnds' (by decide)
  have h2 := hm2.rls' (by decide) shortA
  have h3 := us_block (heap_new0 w1 (.cells (natsV [3, 6, 7]).toArray 38)) (by decide)
  have H1 := Lib.hid h1; have H2 := Lib.hid h2; have H3 := Lib.hid h3; have HB2 := Lib.hid hb2
  obtain ⟨ra, rn, rc, rfl⟩ := hm.slice
  obtain ⟨ba, bn, bc, rfl⟩ : ∃ a n c, bv = .slice a n c := by
    obtain ⟨g, _, h, _⟩ := hm.bnds
    exact ⟨_, _, _, h⟩
  clear hn hm2 hm hb1 h1 h2 h3 hb2
  go_wp2_with fail
  refine (holds_any pA [3, 6, 7] _ _ _ _ H1.out H2.out H3.out (Nat.le_refl _) (u64_of12 okA) u64_367 (HT.out.below HB2.out hw0) (by have := HB2.out.size; omega)).mono ?_
  rintro e w2 ⟨rfl, hb3⟩
  rw [valHolds.1, valHolds.2, show errOf true = 0 from rfl]
  have HB3 := Lib.hid (HB2.out.trans (hb3.mono HB2.out.size))
  clear hb3 H1 H2 H3 HB2
  go_wp2_with fail
  refine (mkB _).mono ?_
  rintro e w3 ⟨bv, rv, rfl, hm, hb1⟩
  have HB4 := Lib.hid (HB3.out.trans (hb1.mono HB3.out.size))
  have H1 := Lib.hid (hm.bnds' (by decide)); have H2 := Lib.hid (hm.rls' (by decide) shortB)
  obtain ⟨ra, rn, rc, rfl⟩ := hm.slice
  obtain ⟨ba, bn, bc, rfl⟩ : ∃ a n c, bv = .slice a n c := by
    obtain ⟨g, _, h, _⟩ := hm.bnds
    exact ⟨_, _, _, h⟩
  clear hm hb1
  go_wp2_with fail
  refine (propagate_yes pB _ _ _ H1.out H2.out (by have := HB4.out.size; omega) (Nat.le_refl _) (u64_of12 okB) (HT.out.below HB4.out hw0) okB).mono ?_
  rintro e w4 ⟨pb, pl, rfl, hpb, hpl, hb4⟩
  rw [valPropB.1]
  have hpl4 : (propR pB).1.2.length = 7 := valPropB.2.2.1
  obtain ⟨la, lc, rfl⟩ := hpl.slice
  obtain ⟨ga, gc, rfl⟩ := hpb.slice
  have hgl : ((propR pB).1.1.take pB.bounds.length).length = 3 := by rw [show (propR pB).1.1.take pB.bounds.length = [⟨6, 6⟩, ⟨1, 1⟩, ⟨7, 7⟩] from valPropB.2.1]; rfl
  rw [hpl4, hgl]
  rw [hpl4] at hpl
  rw [hgl] at hpb
  have HB5 := Lib.hid (HB4.out.trans (hb4.mono HB4.out.size)); have HPB := Lib.hid hpb; have HPL := Lib.hid hpl
  have hws : w4.heap.size = w4.heap.size := rfl
  clear hb4 hpb hpl hpl4 hgl hws H1 H2 HB4 HB3
  go_wp2_with fail
  refine (mkA _).mono ?_
  rintro e w5 ⟨bv, rv, rfl, hm, hb1⟩
  have HB6 := Lib.hid (HB5.out.trans (hb1.mono HB5.out.size))
  have HX1 := Lib.hid hb1
  have H1 := Lib.hid (hm.bnds' (by decide)); have H2 := Lib.hid (hm.rls' (by decide) shortA)
  obtain ⟨ra, rn, rc, rfl⟩ := hm.slice
  obtain ⟨ba, bn, bc, rfl⟩ : ∃ a n c, bv = .slice a n c := by
    obtain ⟨g, _, h, _⟩ := hm.bnds
    exact ⟨_, _, _, h⟩
  clear hm hb1
  go_wp2_with fail
  refine (solve_yes pA 9 _ _ _ H1.out H2.out (by have := HB6.out.size; omega) (Nat.le_refl _) (u64_of12 okA) (HT.out.below HB6.out hw0) okA (by decide)).mono ?_
  rintro e w6 ⟨hso, hb2⟩
  rw [valSolveA] at hso
  rcases hso with ⟨h, _⟩ | ⟨_, sv, rfl, hso⟩
  · cases h
  have hus : Uss w6 w6.heap.size sv [[7, 0, 7], [3, 4, 7], [5, 2, 7], [6, 1, 7]] := hso.uss (by decide) (by decide)
  obtain ⟨sa, sc, rfl⟩ : ∃ a c, sv = .slice a 4 c := by
    obtain ⟨cs, hc, _⟩ := hso
    rcases hc.2 with ⟨h, h0⟩ | ⟨g, cap, cur, h, _⟩
    · cases h0
    · exact ⟨_, _, h⟩
  have hsc : 4 ≤ sc := by obtain ⟨c, ⟨_, a', c', hv, h, _⟩, _⟩ := hus; cases hv; exact h
  have hsc1 : 1 ≤ sc := by omega
  have hsci : (1 : Int) ≤ ((sc : Nat) : Int) := by omega
  have HUS := Lib.hid hus; have HX2 := Lib.hid (HX1.out.trans (hb2.mono HX1.out.size)); have HB7 := Lib.hid (HB6.out.trans (hb2.mono HB6.out.size))
  clear hus hso hb2 H1 H2 HX1 HB6
  go_wp2_with fail
  refine (mkC _).mono ?_
  rintro e w7 ⟨bv, rv, rfl, hm, hb1⟩
  have HB8 := Lib.hid (HB7.out.trans (hb1.mono HB7.out.size))
  have HY1 := Lib.hid hb1
  have H1 := Lib.hid (hm.bnds' (by decide)); have H2 := Lib.hid (hm.rls' (by decide) shortC)
  obtain ⟨ra, rn, rc, rfl⟩ := hm.slice
  obtain ⟨ba, bn, bc, rfl⟩ : ∃ a n c, bv = .slice a n c := by
    obtain ⟨g, _, h, _⟩ := hm.bnds
    exact ⟨_, _, _, h⟩
  clear hm hb1
  go_wp2_with fail
  refine (core_any pC _ _ _ H1.out H2.out (by have := HB8.out.size; omega) (Nat.le_refl _) (u64_of12 okC) (HT.out.below HB8.out hw0)).mono ?_
  rintro e w8 ⟨cv, rfl, hc, hb2⟩
  rw [valCoreC] at hc ⊢
  have hc : Ints w8 w8.heap.size cv [0, 1, 3, 4] := hc
  obtain ⟨ca, cc, rfl⟩ : ∃ a c, cv = .slice a 4 c := hc.slice
  have HC := Lib.hid hc; have HY2 := Lib.hid (HY1.out.trans (hb2.mono HY1.out.size)); have HB9 := Lib.hid (HB8.out.trans (hb2.mono HB8.out.size))
  have hx28 := HX2.out.trans (HY2.out.mono HX2.out.size)
  have HPB8 := Lib.hid ((HPB.out.below hx28 (Nat.le_refl _))); have HPL8 := Lib.hid (HPL.out.below hx28 (Nat.le_refl _)); have HUS8 := Lib.hid (HUS.out.below HY2.out (Nat.le_refl _))
  have hx46 := hx28.size
  have hx68 := HY2.out.size
  clear hc hb2 H1 H2 HY1 HB8 HPB HPL HUS hx28
  obtain ⟨lb, lo, v4, hla, hlb, hv4, p0, p1, p2, p3, p4⟩ := HPL8.out.cells (j := 4) (by rw [valPropB.2.2.1]; decide)
  subst hla
  obtain ⟨lb', lo', v6, hla, hlb', hv6, s0, s1, s2, s3, s4⟩ := HPL8.out.cells (j := 6) (by rw [valPropB.2.2.1]; decide)
  cases hla
  rw [valPropB.2.2.2.1] at p3
  rw [valPropB.2.2.2.2.1] at hv4
  rw [valPropB.2.2.2.2.2] at hv6
  obtain ⟨a4, c4, rfl⟩ : ∃ a c, v4 = .slice a 1 c := hv4.slice
  obtain ⟨a6, c6, rfl⟩ : ∃ a c, v6 = .slice a 1 c := hv6.slice
  have HV4 := Lib.hid hv4; have HV6 := Lib.hid hv6
  have hlb8 : lb < w8.heap.size := by omega
  clear p0 p1 p2 s0 s1 s2 s3 hv4 hv6
  simp only [Nat.reduceMul] at p3 p4 s4
  have hgb : Bnds w8 w4.heap.size (.slice ga 3 gc) [⟨6, 6⟩, ⟨1, 1⟩, ⟨7, 7⟩] := by
    have := HPB8.out
    rwa [show (propR pB).1.1.take pB.bounds.length = [⟨6, 6⟩, ⟨1, 1⟩, ⟨7, 7⟩] from valPropB.2.1] at this
  have HGB := Lib.hid hgb
  clear hgb
  go_wp2_with fail
  have hn := Below.new1 w8 (.cells (bCells [⟨6, 6⟩, ⟨1, 1⟩, ⟨7, 7⟩]).toArray 47)
  refine (sameBounds_any [⟨6, 6⟩, ⟨1, 1⟩, ⟨7, 7⟩] [⟨6, 6⟩, ⟨1, 1⟩, ⟨7, 7⟩] _ _ _ ((HGB.out.mono (by omega)).below hn (Nat.le_refl _) |>.mono hn.size) (bnds_block (heap_new0 w8 (.cells (bCells [⟨6, 6⟩, ⟨1, 1⟩, ⟨7, 7⟩]).toArray 47)) (by decide)) (Nat.le_refl _)).mono ?_
  rintro e w9 ⟨rfl, hb⟩
  rw [show sameB [⟨6, 6⟩, ⟨1, 1⟩, ⟨7, 7⟩] [⟨6, 6⟩, ⟨1, 1⟩, ⟨7, 7⟩] = true from by decide]
  have hb89 := hn.trans (hb.mono hn.size)
  rw [← (bcell hb89).1 _ _ hlb8] at p3 p4 s4
  have HB89 := Lib.hid hb89
  have hlb9 : lb < w9.heap.size := by have := hb89.size; omega
  clear hb hn hb89
  go_wp2_with fail
  have hn := Below.new1 w9 (.cells (intsV [1]).toArray 3)
  refine (sameInts_any [1] [1] _ _ _ ((HV4.out.below (HB89.out.trans (hn.mono HB89.out.size)) (by omega)).mono (by have := HB89.out.size; have := hn.size; omega)) (ints_block (heap_new0 w9 (.cells (intsV [1]).toArray 3)) (by decide)) (Nat.le_refl _)).mono ?_
  rintro e w10 ⟨rfl, hb⟩
  rw [show sameI [1] [1] = true from by decide]
  have hb910 := hn.trans (hb.mono hn.size)
  rw [← (bcell hb910).1 _ _ hlb9] at s4
  have HB810 := Lib.hid (HB89.out.trans (hb910.mono HB89.out.size))
  have hlb10 : lb < w10.heap.size := by have := hb910.size; omega
  clear hb hn hb910 p3 p4 HB89
  go_wp2_with fail
  have hn := Below.new1 w10 (.cells (intsV [5]).toArray 3)
  refine (sameInts_any [5] [5] _ _ _ ((HV6.out.below (HB810.out.trans (hn.mono HB810.out.size)) (by omega)).mono (by have := HB810.out.size; have := hn.size; omega)) (ints_block (heap_new0 w10 (.cells (intsV [5]).toArray 3)) (by decide)) (Nat.le_refl _)).mono ?_
  rintro e w11 ⟨rfl, hb⟩
  rw [show sameI [5] [5] = true from by decide]
  have hb1011 := hn.trans (hb.mono hn.size)
  have HB811 := Lib.hid (HB810.out.trans (hb1011.mono HB810.out.size))
  clear hb hn hb1011 s4 HB810
  go_wp2_with fail
  have hn := Below.new2 w11 (.cells (natsV [7, 0, 7]).toArray 38) (.cells #[.slice (some ⟨w11.heap.size, 0, none⟩) 3 3] 35)
  have hn2 := heap_new2 w11 (.cells (natsV [7, 0, 7]).toArray 38) (.cells #[.slice (some ⟨w11.heap.size, 0, none⟩) 3 3] 35)
  have hu1 : Uss w8 w6.heap.size (.slice sa 1 sc) [[7, 0, 7]] := HUS8.out.take (k := 1) (by decide)
  have hsz := HB811.out.size
  refine (sameSets_any [[7, 0, 7]] [[7, 0, 7]] _ _ _ ((hu1.below (HB811.out.trans (hn.mono HB811.out.size)) (by omega)).mono (by have := hn.size; omega)) (uss_one hn2.2 hn2.1 (by decide)) (Nat.le_refl _)).mono ?_
  rintro e w12 ⟨rfl, hb⟩
  rw [show sameS [[7, 0, 7]] [[7, 0, 7]] = true from by decide]
  have hb1112 := hn.trans (hb.mono hn.size)
  have HB812 := Lib.hid (HB811.out.trans (hb1112.mono HB811.out.size))
  clear hb hn hn2 hu1 hb1112 HB811 hsz
  go_wp2_with fail
  have hn := Below.new1 w12 (.cells (intsV [0, 1, 3, 4]).toArray 3)
  refine (sameInts_any [0, 1, 3, 4] [0, 1, 3, 4] _ _ _ ((HC.out.below (HB812.out.trans (hn.mono HB812.out.size)) (Nat.le_refl _)).mono (by have := HB812.out.size; have := hn.size; omega)) (ints_block (heap_new0 w12 (.cells (intsV [0, 1, 3, 4]).toArray 3)) (by decide)) (Nat.le_refl _)).mono ?_
  rintro e w13 ⟨rfl, hb⟩
  rw [show sameI [0, 1, 3, 4] [0, 1, 3, 4] = true from by decide]
  have HFIN := Lib.hid (HB9.out.trans ((HB812.out.trans ((hn.trans (hb.mono hn.size)).mono HB812.out.size)).mono HB9.out.size))
  clear hb hn
  go_wp2
  go_ret
  exact ⟨rfl, HFIN.out⟩
end Go.Proofs.YtilbbnjfaoldoaaGreatDoor

namespace Go.Proofs.YtilbbnjfaoldoaaGreatDoor
open Go Go.RowKit
attribute [local go_sem] cell_grow u64_sAnd u64_sOr u64_sDiff sDiff_all zeqI zneI sAnd_bit_zero sAnd_bit_zeroN sAnd_bit_nonzero rowOf_grow rowOk_grow rowOf_alloc rowOk_alloc

set_option maxHeartbeats 400000 in
theorem in_any (n l h : Int) (w : World) :
    Calls Tryz.prog 40 #[.int .i64 n, .int .i64 l, .int .i64 h] w fun e w' => e = .returned (.bool (inB n l h)) ∧ w' = w := by
  go_enter Tryz.func40, Tryz.ntmps40
  by_cases h1 : l ≤ n
  all_goals by_cases h2 : n ≤ h
  all_goals go_wp2; go_ret
  all_goals exact ⟨by simp [inB, *], rfl⟩
set_option maxHeartbeats 400000 in
theorem asks_any (k : Int) (w : World) :
    Calls Tryz.prog 73 #[.int .i64 k] w fun e w' => e = .returned (.int .i64 (varsN k)) ∧ w' = w := by
  go_enter Tryz.func73, Tryz.ntmps73
  by_cases h6 : k = 6
  · subst h6; go_wp2; go_ret; exact ⟨rfl, rfl⟩
  by_cases h1 : k = 1
  · subst h1; go_wp2; go_ret; exact ⟨rfl, rfl⟩
  by_cases h2 : k = 2
  · subst h2; go_wp2; go_ret; exact ⟨rfl, rfl⟩
  by_cases h3 : k = 3
  · subst h3; go_wp2; go_ret; exact ⟨rfl, rfl⟩
  by_cases h4 : k = 4
  · subst h4; go_wp2; go_ret; exact ⟨rfl, rfl⟩
  by_cases h5 : k = 5
  · subst h5; go_wp2; go_ret; exact ⟨rfl, rfl⟩
  have e : varsN k = 0 := by simp [varsN, *]
  have E := Lib.hid e; clear e
  go_wp2; go_ret; exact ⟨by rw [E.out]; rfl, rfl⟩
def setOk (s : Nat) : Bool := decide (s / 4096 = 0)
theorem setOk_iff (s : Nat) : setOk s = (sDiff s 4095 == 0) := by
  unfold setOk
  rw [Bool.eq_iff_iff]
  simp only [decide_eq_true_eq, beq_iff_eq]
  have key : sDiff s 4095 = 0 ↔ s < 4096 := by
    constructor
    · intro h
      apply Nat.lt_of_not_le
      intro hge
      obtain ⟨i, hi, hb⟩ := Nat.exists_ge_and_testBit_of_ge_two_pow (n := 12) (x := s) (by simpa using hge)
      have := sDiff_testBit s 4095 i
      rw [h, Nat.zero_testBit, hb, show (4095 : Nat) = 2 ^ 12 - 1 from rfl, Nat.testBit_two_pow_sub_one] at this
      simp at this
      omega
    · intro h
      apply Nat.eq_of_testBit_eq
      intro i
      rw [sDiff_testBit, Nat.zero_testBit, show (4095 : Nat) = 2 ^ 12 - 1 from rfl, Nat.testBit_two_pow_sub_one]
      by_cases hi : i < 12
      · simp [hi]
      · rw [Nat.testBit_lt_two_pow (Nat.lt_of_lt_of_le h (show 2 ^ 12 ≤ 2 ^ i from Nat.pow_le_pow_right (Nat.succ_pos 1) (by omega)))]
        rfl
  rw [key]
  omega
set_option maxHeartbeats 400000 in
theorem set_any (s : Nat) (w : World) (_hs : U64 s) :
    Calls Tryz.prog 41 #[.int .u64 (s : Nat)] w fun e w' => e = .returned (.bool (setOk s)) ∧ w' = w := by
  go_enter Tryz.func41, Tryz.ntmps41
  go_wp2
  go_ret
  refine ⟨congrArg Ending.returned (show Value.bool (((s : Nat) : Int) / 4096 == 0) = Value.bool (setOk s) from congrArg Value.bool ?_), rfl⟩
  unfold setOk
  rw [Bool.eq_iff_iff]
  simp only [beq_iff_eq, decide_eq_true_eq]
  omega
theorem ihas_no {xs : List Int} {i : Nat} (hi : i ≤ xs.length) {x : Int} (h : ∀ j, j < i → iget xs j ≠ x) : ihas (xs.take i) x = false := by
  unfold ihas
  rw [Bool.eq_false_iff]
  intro hc
  rw [List.contains_iff_mem] at hc
  obtain ⟨j, hj, hx⟩ := List.mem_iff_getElem.1 hc
  have hj2 : j < i := by simp at hj; omega
  apply h j hj2
  rw [← hx]
  simp [iget, show j < xs.length by omega]
theorem ihas_yes {xs : List Int} {i j : Nat} (hi : i ≤ xs.length) (hj : j < i) {x : Int} (h : iget xs j = x) : ihas (xs.take i) x = true := by
  unfold ihas
  rw [List.contains_iff_mem]
  refine List.mem_iff_getElem.2 ⟨j, by simp; omega, ?_⟩
  rw [← h]
  simp [iget, show j < xs.length by omega]
set_option maxRecDepth 100000 in
set_option maxHeartbeats 1000000 in
theorem refRule_any (r : Rl) (many : Int) (vv : Value) (w : World) {B : Nat} (hv0 : Ints w B vv r.vars) (hB : B ≤ w.heap.size) (hm0 : 0 ≤ many) (hm : many ≤ 100) :
    Gives Tryz.prog 42 #[.agg #[.int .i64 r.kind, vv, .int .i64 r.low, .int .i64 r.high], .int .i64 many] w (.bool (ruleOk r many)) := by
  obtain ⟨_, a, cap, rfl, hc, _, hr⟩ := hv0.mono hB
  clear hv0 hB
  unfold Gives
  have HR := Lib.hid hr
  clear hr
  go_enter Tryz.func42, Tryz.ntmps42
  go_upto_region 1 with fail
  refine abs_wp (fun W => W.heap[w.heap.size]? = some (.cells #[.int .i64 r.kind, .slice a r.vars.length cap, .int .i64 r.low, .int .i64 r.high] 62 (0, 0)) ∧ Below w.heap.size w W) ⟨heap_new0 _ _, Below.new1 _ _⟩ ?_
  rintro W ⟨k0, hb⟩
  have z0 : w.heap.size < W.heap.size := (Array.getElem?_eq_some_iff.1 k0).1
  have c0 : W.cell? ⟨w.heap.size, 0, none⟩ = some (.int .i64 r.kind) := by rw [cell_of_row _ _ _ _ _ _ k0]; rfl
  have c1 : W.cell? ⟨w.heap.size, 1, none⟩ = some (.slice a r.vars.length cap) := by rw [cell_of_row _ _ _ _ _ _ k0]; rfl
  have K0 := Lib.hid k0; have HB := Lib.hid hb
  have HA := Lib.hid (fun (d : Nat) (os : Array Obj) => Gives.of_same (asks_any r.kind (Go.Sort.grow (redrawn W d) os)))
  clear k0 hb
  cases h0 : (varsN r.kind == 0)
  case true =>
    have HN := Lib.hid (ruleOk_no0 (many := many) h0)
    go_wp2_with fail
    refine wp_region_qb (by kernel_rfl) (by kernel_rfl) ?_
    repeat go_big_quiet_step ((with_reducible exact Gives.quiet (HA.out _ _)))
    refine wpQuiet_nil ?_
    intro w2 hb2
    have HB2 := Lib.hid (HB.out.trans (hb2.mono HB.out.size))
    clear hb2
    go_wp2
    go_ret
    exact ⟨by rw [HN.out]; rfl, HB2.out⟩
  case false =>
    cases h1 : ((r.vars.length : Int) == varsN r.kind)
    case false =>
      have HN := Lib.hid (ruleOk_no1 (many := many) h1)
      have h1n : ((r.vars.length : Int) != varsN r.kind) = true := by simp only [bne, h1]; rfl
      go_wp2_with fail
      refine wp_region_qb (by kernel_rfl) (by kernel_rfl) ?_
      repeat go_big_quiet_step ((with_reducible exact Gives.quiet (HA.out _ _)))
      refine wpQuiet_nil ?_
      intro w2 hb2
      have HB2 := Lib.hid (HB.out.trans (hb2.mono HB.out.size))
      clear hb2
      go_wp2
      go_ret
      exact ⟨by rw [HN.out]; rfl, HB2.out⟩
    case true =>
      have h1n : ((r.vars.length : Int) != varsN r.kind) = false := by simp only [bne, h1]; rfl
      go_wp2_with fail
      refine wp_region_qb (by kernel_rfl) (by kernel_rfl) ?_
      repeat go_big_quiet_step ((with_reducible exact Gives.quiet (HA.out _ _)))
      refine wpQuiet_nil ?_
      intro w2 hb2
      have K2 := Lib.hid (heap_later K0.out hb2 z0)
      have HB2 := Lib.hid (HB.out.trans (hb2.mono HB.out.size))
      have H0 := Lib.hid h0; have H1 := Lib.hid h1
      clear hb2 c0 c1 K0 HB HA h0 h1 h1n
      go_wp2_with fail
      go_loopw [5] (fun i wr => ∃ k : Nat, k ≤ r.vars.length ∧ i = .int .i64 k ∧ (∀ j, j < k → varOk r many j = true) ∧ wr.heap[w.heap.size]? = some (.cells #[.int .i64 r.kind, .slice a r.vars.length cap, .int .i64 r.low, .int .i64 r.high] 62 (0, 0)) ∧ Below w.heap.size w wr) (fun i _ => r.vars.length - (intOf i).toNat)
      case atStart => exact ⟨0, Nat.zero_le _, rfl, fun j hj => absurd hj (Nat.not_lt_zero _), K2.out, HB2.out⟩
      case round =>
        clear K2 HB2
        obtain ⟨k, hk, rfl, hall, k0, hb⟩ := hrel
        obtain ⟨wo, rfl⟩ : ∃ wo : World, wo = wr := ⟨_, rfl⟩
        have z0 : w.heap.size < wo.heap.size := (Array.getElem?_eq_some_iff.1 k0).1
        have c0 : wo.cell? ⟨w.heap.size, 0, none⟩ = some (.int .i64 r.kind) := by rw [cell_of_row _ _ _ _ _ _ k0]; rfl
        have c1 : wo.cell? ⟨w.heap.size, 1, none⟩ = some (.slice a r.vars.length cap) := by rw [cell_of_row _ _ _ _ _ _ k0]; rfl
        have c2 : wo.cell? ⟨w.heap.size, 2, none⟩ = some (.int .i64 r.low) := by rw [cell_of_row _ _ _ _ _ _ k0]; rfl
        have c3 : wo.cell? ⟨w.heap.size, 3, none⟩ = some (.int .i64 r.high) := by rw [cell_of_row _ _ _ _ _ _ k0]; rfl
        have K0 := Lib.hid k0; have HB := Lib.hid hb; have HALL := Lib.hid hall
        clear k0 hb hall
        by_cases hlt : k < r.vars.length
        · obtain ⟨b, off, rfl, hbs, hcell⟩ := HR.out (by omega)
          have HCELL := Lib.hid hcell
          have d0 : wo.cell? ⟨b, off + k, none⟩ = some (.int .i64 (iget r.vars k)) := (HB.out.cell (p := ⟨b, off + k, none⟩) hbs).trans (hcell k (by omega))
          have zb : b < wo.heap.size := by omega
          clear hcell c0 c2 c3
          cases hin : inB (iget r.vars k) 0 (many - 1)
          · have HN := Lib.hid (ruleOk_no2 (many := many) hlt (by simp [varOk, hin]))
            go_wp2_with fail
            refine (in_any _ _ _ _).mono ?_
            rintro e w3 ⟨rfl, rfl⟩
            rw [hin]
            go_wp2
            go_ret
            exact ⟨by rw [HN.out]; rfl, HB.out⟩
          · have HIN := Lib.hid hin
            go_wp2_with fail
            refine (in_any _ _ _ _).mono ?_
            rintro e w3 ⟨rfl, rfl⟩
            rw [HIN.out]
            clear hin d0
            go_wp2_with fail
            go_loopw [6] (fun i wr => ∃ m : Nat, m ≤ k ∧ i = .int .i64 m ∧ (∀ j, j < m → iget r.vars j ≠ iget r.vars k) ∧ Below w3.heap.size w3 wr) (fun i _ => k - (intOf i).toNat)
            case atStart => exact ⟨0, Nat.zero_le _, rfl, fun j hj => absurd hj (Nat.not_lt_zero _), Below.refl _ _⟩
            case round =>
              obtain ⟨m, hm, rfl, hne, hb4⟩ := hrel
              by_cases hmt : m < k
              · have hbw := HB.out.trans (hb4.mono HB.out.size)
                have k04 := heap_later K0.out hb4 z0
                have z04 : w.heap.size < wr.heap.size := (Array.getElem?_eq_some_iff.1 k04).1
                have c1 : wr.cell? ⟨w.heap.size, 1, none⟩ = some (.slice (some ⟨b, off, none⟩) r.vars.length cap) := by rw [cell_of_row _ _ _ _ _ _ k04]; rfl
                have d0 : wr.cell? ⟨b, off + k, none⟩ = some (.int .i64 (iget r.vars k)) := (hbw.cell (p := ⟨b, off + k, none⟩) hbs).trans (HCELL.out k (by omega))
                have d1 : wr.cell? ⟨b, off + m, none⟩ = some (.int .i64 (iget r.vars m)) := (hbw.cell (p := ⟨b, off + m, none⟩) hbs).trans (HCELL.out m (by omega))
                have zb4 : b < wr.heap.size := by omega
                have hml : m < r.vars.length := by omega
                have HB4 := Lib.hid hb4; have HNE := Lib.hid hne; have HBW := Lib.hid hbw
                clear hb4 hne hbw k04
                by_cases he : iget r.vars m = iget r.vars k
                · have HN := Lib.hid (ruleOk_no2 (many := many) hlt (by simp only [varOk, ihas_yes (by omega) hmt he]; simp))
                  have e1 : (iget r.vars m == iget r.vars k) = true := by rw [he]; simp
                  clear he
                  go_wp2_with fail
                  refine wp_region_qb (by kernel_rfl) (by kernel_rfl) ?_
                  repeat go_big_quiet_step (fail)
                  refine wpQuiet_nil ?_
                  intro w5 hb5
                  have HB5 := Lib.hid (HBW.out.trans (hb5.mono HBW.out.size))
                  clear hb5
                  go_wp2
                  go_ret
                  exact ⟨by rw [HN.out]; rfl, HB5.out⟩
                · have HE := Lib.hid he
                  have e1 : (iget r.vars m == iget r.vars k) = false := by simp [he]
                  clear he
                  go_wp2_with fail
                  refine wp_region_qb (by kernel_rfl) (by kernel_rfl) ?_
                  repeat go_big_quiet_step (fail)
                  refine wpQuiet_nil ?_
                  intro w5 hb5
                  have HB5 := Lib.hid (HB4.out.trans (hb5.mono HB4.out.size))
                  clear hb5
                  go_wp2
                  go_roundw
                  case rel => exact ⟨m + 1, by omega, by go_num, fun j hj => if h : j = m then h ▸ HE.out else HNE.out j (by omega), HB5.out⟩
                  case measure => simp [intOf]; omega
              · have hm2 : m = k := by omega
                subst hm2
                have hvo : varOk r many m = true := by simp only [varOk, HIN.out, ihas_no (show m ≤ r.vars.length by omega) hne]; rfl
                have HVO := Lib.hid hvo; have KF := Lib.hid (heap_later K0.out hb4 z0); have HBF := Lib.hid (HB.out.trans (hb4.mono HB.out.size))
                clear hvo hb4 hne
                go_wp2
                go_roundw
                case rel => exact ⟨m + 1, by omega, by go_num, fun j hj => if h : j = m then h ▸ HVO.out else HALL.out j (by omega), KF.out, HBF.out⟩
                case measure => simp [intOf]; omega
        · have hk2 : k = r.vars.length := by omega
          subst hk2
          have HRO := Lib.hid (ruleOk_yes H0.out H1.out HALL.out)
          cases h6 : (r.kind == 6)
          · cases hl : (r.low == 0)
            all_goals
              go_wp2
              go_ret
              exact ⟨by rw [HRO.out, h6, hl]; rfl, HB.out⟩
          · cases hl : inB r.low 0 12
            all_goals
              go_wp2_with (go_at_call 40; refine (in_any _ _ _ _).mono ?_; rintro e w' ⟨rfl, rfl⟩)
              go_ret
              exact ⟨by rw [HRO.out, h6, hl]; rfl, HB.out⟩
end Go.Proofs.YtilbbnjfaoldoaaGreatDoor

namespace Go.Proofs.YtilbbnjfaoldoaaGreatDoor
open Go Go.RowKit
attribute [local go_sem] cell_grow u64_sAnd u64_sOr u64_sDiff sDiff_all zeqI zneI sAnd_bit_zero sAnd_bit_zeroN sAnd_bit_nonzero rowOf_grow rowOk_grow rowOf_alloc rowOk_alloc

theorem bndOk_of {b : Bnd} (h1 : setOk b.can = true) (h2 : (sDiff b.inn b.can == 0) = true) : bndOk b = true := by unfold bndOk; rw [← setOk_iff, h1, h2]; rfl
theorem bndOk_no1 {b : Bnd} (h1 : setOk b.can = false) : bndOk b = false := by unfold bndOk; rw [← setOk_iff, h1]; rfl
theorem bndOk_no2 {b : Bnd} (h2 : (sDiff b.inn b.can == 0) = false) : bndOk b = false := by unfold bndOk; rw [h2, Bool.and_false]
theorem probOk_no3 {p : Prob} {k : Nat} (hk : k < p.rules.length) (h : ruleOk (rget p.rules k) p.bounds.length = false) : probOk p = false := by
  have : (p.rules.all fun r => ruleOk r p.bounds.length) = false := by
    rw [Bool.eq_false_iff]; intro hc
    have := List.all_eq_true.1 hc (rget p.rules k) (by unfold rget; rw [List.getElem?_eq_getElem hk]; exact List.getElem_mem hk)
    rw [h] at this; cases this
  unfold probOk
  rw [this, Bool.and_false]
theorem probOk_all {p : Prob} (h0 : inB p.bounds.length 1 8 = true) (h1 : decide (p.rules.length ≤ 12) = true) (h2 : ∀ j, j < p.bounds.length → bndOk (bget p.bounds j) = true) (h3 : ∀ j, j < p.rules.length → ruleOk (rget p.rules j) p.bounds.length = true) : probOk p = true := by
  have e2 : p.bounds.all bndOk = true := by
    rw [List.all_eq_true]; intro b hb
    obtain ⟨i, hi, rfl⟩ := List.mem_iff_getElem.1 hb
    have := h2 i hi
    simpa [bget, hi] using this
  have e3 : (p.rules.all fun r => ruleOk r p.bounds.length) = true := by
    rw [List.all_eq_true]; intro b hb
    obtain ⟨i, hi, rfl⟩ := List.mem_iff_getElem.1 hb
    have := h3 i hi
    simpa [rget, hi] using this
  unfold probOk
  rw [h0, h1, e2, e3]; rfl
set_option maxRecDepth 100000 in
set_option maxHeartbeats 1000000 in
theorem refProb_any (p : Prob) (bv rv : Value) (w : World) {B : Nat} (hbv : Bnds w B bv p.bounds) (hrv : Rls w B rv p.rules) (hB : B ≤ w.heap.size) (hub : U64s p.bounds) :
    Gives Tryz.prog 16 #[.agg #[bv, rv]] w (.bool (probOk p)) := by
  unfold Gives
  have HBV := Lib.hid hbv; have HRV := Lib.hid hrv; have HUB := Lib.hid hub
  have hbl := hbv.1
  have hrl := hrv.len
  obtain ⟨ba, bc, rfl⟩ := hbv.slice
  obtain ⟨ra, rc, rfl⟩ := hrv.slice
  clear hbv hrv hub
  have hn0 := heap_new0 w (.cells #[.slice ba p.bounds.length bc, .slice ra p.rules.length rc] 25)
  have hb0 := Below.new1 w (.cells #[.slice ba p.bounds.length bc, .slice ra p.rules.length rc] 25)
  have HN0 := Lib.hid hn0; have HB0 := Lib.hid hb0
  clear hn0 hb0
  go_enter Tryz.func16, Tryz.ntmps16
  cases h0 : inB p.bounds.length 1 8
  case false =>
    have HN := Lib.hid (probOk_no0 h0)
    go_wp2_with fail
    refine (in_any _ _ _ _).mono ?_
    rintro e w2 ⟨rfl, rfl⟩
    rw [h0]
    go_wp2
    go_ret
    exact ⟨by rw [HN.out]; rfl, HB0.out⟩
  case true =>
    cases h1 : decide (p.rules.length ≤ 12)
    case false =>
      have HN := Lib.hid (probOk_no1 h1)
      have h1' : ¬ p.rules.length ≤ 12 := by simpa using h1
      have h1i : (12 : Int) < ((p.rules.length : Nat) : Int) := by omega
      have H0 := Lib.hid h0
      clear h1 h0
      go_wp2_with fail
      refine (in_any _ _ _ _).mono ?_
      rintro e w2 ⟨rfl, rfl⟩
      rw [H0.out]
      go_wp2
      go_ret
      exact ⟨by rw [HN.out]; rfl, HB0.out⟩
    case true =>
      have h1' : p.rules.length ≤ 12 := by simpa using h1
      have h8 : p.bounds.length ≤ 8 := by unfold inB at h0; simp at h0; omega
      have H0 := Lib.hid h0; have H1 := Lib.hid h1
      clear h1 h0
      go_wp2_with fail
      refine (in_any _ _ _ _).mono ?_
      rintro e w2 ⟨rfl, hw⟩
      rw [← hw] at HN0 HB0
      clear hw
      rw [H0.out]
      have k0 := HN0.out
      have c1 : w2.cell? ⟨w.heap.size, 1, none⟩ = some (.slice ra p.rules.length rc) := by rw [cell_of_row _ _ _ _ _ _ k0]; rfl
      clear k0
      go_wp2_with fail
      go_loopw [3] (fun i wr => ∃ k : Nat, k ≤ p.bounds.length ∧ i = .int .i64 k ∧ (∀ j, j < k → bndOk (bget p.bounds j) = true) ∧ wr.heap[w.heap.size]? = some (.cells #[.slice ba p.bounds.length bc, .slice ra p.rules.length rc] 25 (0, 0)) ∧ Below w.heap.size w wr) (fun i _ => p.bounds.length - (intOf i).toNat)
      case atStart => exact ⟨0, Nat.zero_le _, rfl, fun j hj => absurd hj (Nat.not_lt_zero _), HN0.out, HB0.out⟩
      case round =>
        clear HN0 HB0 c1
        obtain ⟨k, hk, rfl, hall, k0, hb⟩ := hrel
        have z0 : w.heap.size < wr.heap.size := (Array.getElem?_eq_some_iff.1 k0).1
        have c0 : wr.cell? ⟨w.heap.size, 0, none⟩ = some (.slice ba p.bounds.length bc) := by rw [cell_of_row _ _ _ _ _ _ k0]; rfl
        have K0 := Lib.hid k0; have HB := Lib.hid hb; have HALL := Lib.hid hall
        clear k0 hb hall
        by_cases hlt : k < p.bounds.length
        · obtain ⟨_, a', c', hae, _, _, hrow⟩ := HBV.out.below HB.out hB
          cases hae
          obtain ⟨b, off, rfl, hbB, hcell⟩ := hrow (by omega)
          have d0 : wr.cell? ⟨b, off + k * 2, none⟩ = some (.int .u64 ((bget p.bounds k).inn : Nat)) := by rw [hcell _ (by omega), bcellAt_inn]
          have d1 : wr.cell? ⟨b, off + k * 2 + 1, none⟩ = some (.int .u64 ((bget p.bounds k).can : Nat)) := by rw [← bcellAt_can]; exact hcell (k * 2 + 1) (by omega)
          have hu := HUB.out.get k
          have hu1 := hu.1; have hu2 := hu.2
          have hnb := Below.new1 wr (.cells #[.int .u64 ((bget p.bounds k).inn : Nat), .int .u64 ((bget p.bounds k).can : Nat)] 47)
          have HF := Lib.hid (HB.out.trans (hnb.mono HB.out.size)); have KF := Lib.hid (heap_later K0.out hnb z0)
          clear hrow hcell hnb hu
          cases hs : setOk (bget p.bounds k).can
          · have HN := Lib.hid (probOk_no2 hlt (bndOk_no1 hs))
            go_wp2_with fail
            refine (set_any _ _ hu2).mono ?_
            rintro e w3 ⟨rfl, rfl⟩
            rw [hs]
            go_wp2
            go_ret
            exact ⟨by rw [HN.out]; rfl, HF.out⟩
          · have HS := Lib.hid hs
            clear hs
            cases hd : (sDiff (bget p.bounds k).inn (bget p.bounds k).can == 0)
            · have HN := Lib.hid (probOk_no2 hlt (bndOk_no2 hd))
              go_wp2_with fail
              refine (set_any _ _ hu2).mono ?_
              rintro e w3 ⟨rfl, rfl⟩
              rw [HS.out]
              go_wp2
              go_ret
              exact ⟨by rw [HN.out]; rfl, HF.out⟩
            · have HD := Lib.hid (bndOk_of HS.out hd)
              go_wp2_with fail
              refine (set_any _ _ hu2).mono ?_
              rintro e w3 ⟨rfl, rfl⟩
              rw [HS.out]
              go_wp2
              go_roundw
              case rel => exact ⟨k + 1, by omega, by go_num, fun j hj => if h : j = k then h ▸ HD.out else HALL.out j (by omega), KF.out, HF.out⟩
              case measure => simp [intOf]; omega
        · have hk2 : k = p.bounds.length := by omega
          subst hk2
          have c1 : wr.cell? ⟨w.heap.size, 1, none⟩ = some (.slice ra p.rules.length rc) := by rw [cell_of_row _ _ _ _ _ _ K0.out]; rfl
          go_wp2_with fail
          go_loopw [5] (fun i wr => ∃ k : Nat, k ≤ p.rules.length ∧ i = .int .i64 k ∧ (∀ j, j < k → ruleOk (rget p.rules j) p.bounds.length = true) ∧ wr.heap[w.heap.size]? = some (.cells #[.slice ba p.bounds.length bc, .slice ra p.rules.length rc] 25 (0, 0)) ∧ Below w.heap.size w wr) (fun i _ => p.rules.length - (intOf i).toNat)
          case atStart => exact ⟨0, Nat.zero_le _, rfl, fun j hj => absurd hj (Nat.not_lt_zero _), K0.out, HB.out⟩
          case round =>
            have HALLB := HALL
            clear K0 HB HALL c0 c1 z0
            obtain ⟨k, hk, rfl, hall, k0, hb⟩ := hrel
            have z0 : w.heap.size < wr.heap.size := (Array.getElem?_eq_some_iff.1 k0).1
            have c0 : wr.cell? ⟨w.heap.size, 0, none⟩ = some (.slice ba p.bounds.length bc) := by rw [cell_of_row _ _ _ _ _ _ k0]; rfl
            have c1 : wr.cell? ⟨w.heap.size, 1, none⟩ = some (.slice ra p.rules.length rc) := by rw [cell_of_row _ _ _ _ _ _ k0]; rfl
            have K0 := Lib.hid k0; have HB := Lib.hid hb; have HALL := Lib.hid hall
            clear k0 hb hall
            by_cases hlt : k < p.rules.length
            · obtain ⟨rb, ro, vv, rfl, hrb, hvv, q0, q1, q2, q3⟩ := (HRV.out.below HB.out hB).cells hlt
              obtain ⟨va, vc, rfl⟩ := hvv.slice
              have zr : rb < wr.heap.size := by omega
              have HVV := Lib.hid hvv
              have HC := Lib.hid (fun (d : Nat) (os : Array Obj) => refRule_any (rget p.rules k) ((p.bounds.length : Nat) : Int) _ (Go.Sort.grow (redrawn wr d) os) (HVV.out.below (below_regrown wr d os |>.mono (by have := HB.out.size; omega)) (Nat.le_refl _)) (by have := (below_regrown wr d os).size; have := HB.out.size; omega) (by omega) (by omega))
              clear hvv
              cases hr : ruleOk (rget p.rules k) p.bounds.length <;> rw [hr] at HC
              · have HN := Lib.hid (probOk_no3 hlt hr)
                clear hr
                go_wp2_with fail
                refine wp_region_qb (by kernel_rfl) (by kernel_rfl) ?_
                repeat go_big_quiet_step ((with_reducible exact Gives.quiet (HC.out _ _)))
                refine wpQuiet_nil ?_
                intro w5 hb5
                have HB5 := Lib.hid (HB.out.trans (hb5.mono HB.out.size))
                clear hb5
                go_wp2
                go_ret
                exact ⟨by rw [HN.out]; rfl, HB5.out⟩
              · have HR := Lib.hid hr
                clear hr
                go_wp2_with fail
                refine wp_region_qb (by kernel_rfl) (by kernel_rfl) ?_
                repeat go_big_quiet_step ((with_reducible exact Gives.quiet (HC.out _ _)))
                refine wpQuiet_nil ?_
                intro w5 hb5
                have HB5 := Lib.hid (HB.out.trans (hb5.mono HB.out.size)); have K5 := Lib.hid (heap_later K0.out hb5 z0)
                clear hb5
                go_wp2
                go_roundw
                case rel => exact ⟨k + 1, by omega, by go_num, fun j hj => if h : j = k then h ▸ HR.out else HALL.out j (by omega), K5.out, HB5.out⟩
                case measure => simp [intOf]; omega
            · have hk3 : k = p.rules.length := by omega
              subst hk3
              have HY := Lib.hid (probOk_all H0.out H1.out HALLB.out HALL.out)
              go_wp2
              go_ret
              exact ⟨by rw [HY.out]; rfl, HB.out⟩
def smallOk (p : Prob) : Bool := decide (p.bounds.length ≤ 9) && decide (p.rules.length ≤ 13) && (List.range p.rules.length).all fun i => decide ((rget p.rules i).vars.length ≤ 5)
set_option maxRecDepth 100000 in
set_option maxHeartbeats 1000000 in
theorem small_any (p : Prob) (bv rv : Value) (w : World) {B : Nat} (hbv : Bnds w B bv p.bounds) (hrv : Rls w B rv p.rules) (hB : B ≤ w.heap.size) :
    Gives Tryz.prog 15 #[.agg #[bv, rv]] w (.bool (smallOk p)) := by
  unfold Gives
  have HBV := Lib.hid hbv; have HRV := Lib.hid hrv
  have hbl := hbv.1
  have hrl := hrv.len
  obtain ⟨ba, bc, rfl⟩ := hbv.slice
  obtain ⟨ra, rc, rfl⟩ := hrv.slice
  clear hbv hrv
  have HB0 := Lib.hid (Below.new1 w (.cells #[.slice ba p.bounds.length bc, .slice ra p.rules.length rc] 25))
  go_enter Tryz.func15, Tryz.ntmps15
  by_cases h0 : p.bounds.length ≤ 9
  · by_cases h1 : p.rules.length ≤ 13
    · have h0i : ¬ (9 : Int) < ((p.bounds.length : Nat) : Int) := by omega
      have h1i : ¬ (13 : Int) < ((p.rules.length : Nat) : Int) := by omega
      go_wp2_with fail
      go_loop [3] (fun i => ∃ k : Nat, k ≤ p.rules.length ∧ i = .int .i64 k ∧ (∀ j, j < k → (rget p.rules j).vars.length ≤ 5)) (fun i => p.rules.length - (intOf i).toNat)
      case atStart => exact ⟨0, Nat.zero_le _, rfl, fun j hj => absurd hj (Nat.not_lt_zero _)⟩
      case round =>
        obtain ⟨k, hk, rfl, hall⟩ := hrel
        have HALL := Lib.hid hall
        clear hall
        by_cases hlt : k < p.rules.length
        · obtain ⟨rb, ro, vv, rfl, hrb, hvv, q0, q1, q2, q3⟩ := (HRV.out.below HB0.out hB).cells hlt
          obtain ⟨va, vc, rfl⟩ := hvv.slice
          have hvl := hvv.1
          clear q0 q2 q3 hvv
          by_cases h5 : (rget p.rules k).vars.length ≤ 5
          · have HS := Lib.hid h5
            have h5i : ¬ (5 : Int) < (((rget p.rules k).vars.length : Nat) : Int) := by omega
            go_wp2
            go_round
            case rel => exact ⟨k + 1, by omega, by go_num, fun j hj => if h : j = k then h ▸ HS.out else HALL.out j (by omega)⟩
            case measure => simp [intOf]; omega
          · have HN : Hid (smallOk p = false) := Lib.hid (by
              have : ((List.range p.rules.length).all fun i => decide ((rget p.rules i).vars.length ≤ 5)) = false := by
                rw [Bool.eq_false_iff]; intro hc
                have := List.all_eq_true.1 hc k (List.mem_range.2 hlt)
                simp at this; omega
              unfold smallOk; rw [this, Bool.and_false])
            have h5i : (5 : Int) < (((rget p.rules k).vars.length : Nat) : Int) := by omega
            go_wp2
            go_ret
            exact ⟨by rw [HN.out]; rfl, HB0.out⟩
        · have hk2 : k = p.rules.length := by omega
          subst hk2
          have HY : Hid (smallOk p = true) := Lib.hid (by
            unfold smallOk
            rw [decide_eq_true h0, decide_eq_true h1, Bool.true_and, Bool.true_and, List.all_eq_true]
            exact fun i hi => decide_eq_true (HALL.out i (List.mem_range.1 hi)))
          go_wp2
          go_ret
          exact ⟨by rw [HY.out]; rfl, HB0.out⟩
    · have HN : Hid (smallOk p = false) := Lib.hid (by unfold smallOk; rw [decide_eq_false h1]; simp)
      have h0i : ¬ (9 : Int) < ((p.bounds.length : Nat) : Int) := by omega
      have h1i : (13 : Int) < ((p.rules.length : Nat) : Int) := by omega
      go_wp2
      go_ret
      exact ⟨by rw [HN.out]; rfl, HB0.out⟩
  · have HN : Hid (smallOk p = false) := Lib.hid (by unfold smallOk; rw [decide_eq_false h0]; simp)
    have h0i : (9 : Int) < ((p.bounds.length : Nat) : Int) := by omega
    go_wp2
    go_ret
    exact ⟨by rw [HN.out]; rfl, HB0.out⟩
end Go.Proofs.YtilbbnjfaoldoaaGreatDoor

namespace Go.Proofs.YtilbbnjfaoldoaaGreatDoor
open Go Go.RowKit
attribute [local go_sem] cell_grow u64_sAnd u64_sOr u64_sDiff sDiff_all zeqI zneI sAnd_bit_zero sAnd_bit_zeroN sAnd_bit_nonzero rowOf_grow rowOk_grow rowOf_alloc rowOk_alloc

def bitB (s e : Nat) : Bool := s.testBit e
theorem bitB_mask (s e : Nat) (hs : U64 s) : (bits .and .u64 ((s : Int) / 2 ^ e) 1 == 1) = bitB s e := by
  have hs' : s < 18446744073709551616 := hs
  have e1 : ((s : Int) / 2 ^ e) = ((s / 2 ^ e : Nat) : Int) := by simp
  have hlt : s / 2 ^ e < 18446744073709551616 := Nat.lt_of_le_of_lt (Nat.div_le_self _ _) hs'
  rw [e1, show (1 : Int) = ((1 : Nat) : Int) from rfl, u64_and_nat _ _ hlt (by decide)]
  unfold bitB
  rw [Nat.testBit_eq_decide_div_mod_eq, Nat.and_one_is_mod]
  rw [Bool.eq_iff_iff]; simp; omega
set_option maxHeartbeats 400000 in
theorem has_any (s e : Nat) (w : World) (hs : U64 s) (he : e < 12) :
    Calls Tryz.prog 43 #[.int .u64 (s : Nat), .int .i64 (e : Nat)] w fun r w' => r = .returned (.bool (bitB s e)) ∧ w' = w := by
  have hin : inB (e : Int) 0 11 = true := by unfold inB; simp; omega
  have hm := bitB_mask s e hs
  have HIN := Lib.hid hin
  clear hin
  go_enter Tryz.func43, Tryz.ntmps43
  go_wp2_with (go_at_call 40; refine (in_any _ _ _ _).mono ?_; rintro e w' ⟨rfl, rfl⟩; rw [HIN.out])
  go_ret
  exact ⟨rfl, rfl⟩
def cntN (s k : Nat) : Nat := (List.range k).countP (bitB s)
theorem cntN_succ (s k : Nat) : cntN s (k + 1) = cntN s k + (if bitB s k then 1 else 0) := by
  unfold cntN; rw [List.range_succ, List.countP_append, List.countP_singleton]
theorem cntN_le (s k : Nat) : cntN s k ≤ k := by unfold cntN; have := List.countP_le_length (p := bitB s) (l := List.range k); simpa using this
set_option maxHeartbeats 400000 in
theorem count_any (s : Nat) (w : World) (hs : U64 s) :
    Calls Tryz.prog 17 #[.int .u64 (s : Nat)] w fun r w' => r = .returned (.int .i64 ((cntN s 12 : Nat) : Int)) ∧ w' = w := by
  go_enter Tryz.func17, Tryz.ntmps17
  go_wp2
  go_loop [3, 4] (fun n i => ∃ k : Nat, k ≤ 12 ∧ i = .int .i64 k ∧ n = .int .i64 ((cntN s k : Nat) : Int)) (fun _ i => 12 - (intOf i).toNat)
  case atStart => exact ⟨0, Nat.zero_le _, rfl, rfl⟩
  case round =>
    obtain ⟨k, hk, rfl, rfl⟩ := hrel
    have hle := cntN_le s k
    have HS := Lib.hid (cntN_succ s k)
    by_cases hlt : k < 12
    · cases hb : bitB s k
      · go_wp2_with (go_at_call 43; refine (has_any s k _ hs hlt).mono ?_; rintro e w' ⟨rfl, rfl⟩; rw [hb])
        go_round
        case rel => exact ⟨k + 1, by omega, by go_num, by rw [HS.out, hb]; rfl⟩
        case measure => simp [intOf]; omega
      · go_wp2_with (go_at_call 43; refine (has_any s k _ hs hlt).mono ?_; rintro e w' ⟨rfl, rfl⟩; rw [hb])
        go_round
        case rel => exact ⟨k + 1, by omega, by go_num, by rw [HS.out, hb]; rfl⟩
        case measure => simp [intOf]; omega
    · have hk2 : k = 12 := by omega
      subst hk2
      go_wp2
      go_ret
      exact ⟨rfl, rfl⟩
/-- The sets of a rule's variables. -/
def ofN (vars : List Int) (l : List Nat) : List Nat := vars.map fun v => nget l v.toNat
theorem ofN_take_succ (vars : List Int) (l : List Nat) (k : Nat) (h : k < vars.length) : ofN (vars.take (k + 1)) l = ofN (vars.take k) l ++ [nget l (iget vars k).toNat] := by
  unfold ofN
  rw [List.take_succ_eq_append_getElem h, List.map_append]
  simp [iget, h]
set_option maxRecDepth 100000 in
set_option maxHeartbeats 1000000 in
theorem refOf_any (r : Rl) (l : List Nat) (vv lv : Value) (w : World) {B : Nat} (hv : Ints w B vv r.vars) (hl : Us w B lv l) (hB : B ≤ w.heap.size) (h3 : r.vars.length ≤ 3) (hr : ∀ i, i < r.vars.length → 0 ≤ iget r.vars i ∧ iget r.vars i < l.length) :
    Calls Tryz.prog 53 #[.agg #[.int .i64 r.kind, vv, .int .i64 r.low, .int .i64 r.high], lv] w fun e w' => ∃ v, e = .returned v ∧ Us w' w'.heap.size v (ofN r.vars l) ∧ Below w.heap.size w w' := by
  have HV := Lib.hid hv; have HL := Lib.hid hl; have HR := Lib.hid hr
  have hll := hl.1
  obtain ⟨va, vc, rfl⟩ := hv.slice
  obtain ⟨la, lc, rfl⟩ := hl.slice
  obtain ⟨i0, hin, hz0, hz1, hz2⟩ := info_parts Tryz.info65
  clear hv hl hr
  have K0 := Lib.hid (heap_new0 w (.cells #[.int .i64 r.kind, .slice va r.vars.length vc, .int .i64 r.low, .int .i64 r.high] 62)); have HB0 := Lib.hid (Below.new1 w (.cells #[.int .i64 r.kind, .slice va r.vars.length vc, .int .i64 r.low, .int .i64 r.high] 62))
  go_enter Tryz.func53, Tryz.ntmps53
  go_wp2
  go_loopw [5, 6] (fun yv i wr => ∃ k : Nat, k ≤ r.vars.length ∧ i = .int .i64 k ∧ wr.ownsRow (w.heap.size + 1) 38 1 yv k (natsV (ofN (r.vars.take k) l)) ∧ wr.heap[w.heap.size]? = some (.cells #[.int .i64 r.kind, .slice va r.vars.length vc, .int .i64 r.low, .int .i64 r.high] 62 (0, 0)) ∧ Below w.heap.size w wr) (fun _ i _ => r.vars.length - (intOf i).toNat)
  case atStart => exact ⟨0, Nat.zero_le _, rfl, World.ownsRow_nil _ _ _ _, K0.out, HB0.out⟩
  case round =>
    clear K0 HB0
    obtain ⟨k, hk, rfl, hown, k0, hb⟩ := hrel
    have z0 : w.heap.size < wr.heap.size := (Array.getElem?_eq_some_iff.1 k0).1
    have c1 : wr.cell? ⟨w.heap.size, 1, none⟩ = some (.slice va r.vars.length vc) := by rw [cell_of_row _ _ _ _ _ _ k0]; rfl
    by_cases hlt : k < r.vars.length
    · obtain ⟨_, a', c', hae, _, _, hrow⟩ := HV.out.below hb hB
      cases hae
      obtain ⟨b, off, rfl, hbB, hcell⟩ := hrow (by omega)
      have hrk := HR.out k hlt
      obtain ⟨v, hve⟩ : ∃ v : Nat, iget r.vars k = v := ⟨(iget r.vars k).toNat, by omega⟩
      have hvl : v < l.length := by omega
      have d0 : wr.cell? ⟨b, off + k, none⟩ = some (.int .i64 (v : Int)) := by rw [hcell k (by omega)]; show some (Value.int .i64 (iget r.vars k)) = _; rw [hve]
      obtain ⟨_, a2, c2, hae2, _, _, hrow2⟩ := HL.out.below hb hB
      cases hae2
      obtain ⟨b2, off2, rfl, hb2B, hcell2⟩ := hrow2 (by omega)
      have d1 : wr.cell? ⟨b2, off2 + v, none⟩ = some (.int .u64 ((nget l v : Nat) : Int)) := hcell2 v (by omega)
      have hts := ofN_take_succ r.vars l k hlt
      rw [hve, Int.toNat_natCast] at hts
      have HOW := Lib.hid hown; have K0 := Lib.hid k0; have HB := Lib.hid hb; have HTS := Lib.hid hts
      clear hown k0 hb hts hrow hcell hrow2 hcell2 hrk hve
      go_wp2_with (at_builtin; refine wpList_append_own _ rfl _ _ 35 rfl (w.heap.size + 1) 38 i0 (.int .u64 0) 1 8 Tryz.underlying35 hin hz0 hz1 hz2 rfl (by decide) _ _ _ rfl (HOW.out.alloc _) ⟨wr.heap.size, 0, none⟩ 1 1 (natsV [nget l v]) rfl rfl ?c1 ?c2 ?c3 ?c4 ?c5 ?_)
      case c1 =>
        intro q u hq
        match q, hq with
        | 0, hq => cases hq; rw [Addr.add_lit]; exact cell_of_one (heap_new0 _ _)
      case c2 => exact natsV_one _
      case c3 => unfold maxLen; omega
      case c4 => omega
      case c5 => simp; omega
      intro v' w3 hown3 hgrow3 _
      have hb3 := (HB.out.alloc HB.out.size (.cells #[natV (nget l v)] 38)).grown hgrow3 (by have := HB.out.size; simp; omega) (fun q hq => by have := (HOW.out.lt q hq).1; omega)
      have k3 := (hgrow3.block w.heap.size (by simp; omega) (fun hh => by have := (HOW.out.lt _ hh.symm).1; omega)).trans (heap_old K0.out)
      rw [natsV_append, ← HTS.out] at hown3
      have HO3 := Lib.hid hown3; have HB3 := Lib.hid hb3; have K3 := Lib.hid k3
      clear hown3 hgrow3 hb3 k3 d0 d1
      go_wp2
      go_roundw
      case rel => exact ⟨k + 1, by omega, by go_num, HO3.out, K3.out, HB3.out⟩
      case measure => simp [intOf]; omega
    · have hk2 : k = r.vars.length := by omega
      subst hk2
      rw [List.take_length] at hown
      have hu := ownsRow_us hown (by omega) (by simp [ofN])
      have HU := Lib.hid hu; have HB := Lib.hid hb
      clear hown hu hb k0
      go_wp2
      go_ret
      exact ⟨_, rfl, HU.out, HB.out⟩
end Go.Proofs.YtilbbnjfaoldoaaGreatDoor

namespace Go.Proofs.YtilbbnjfaoldoaaGreatDoor
open Go Go.RowKit
attribute [local go_sem] cell_grow u64_sAnd u64_sOr u64_sDiff sDiff_all zeqI zneI sAnd_bit_zero sAnd_bit_zeroN sAnd_bit_nonzero rowOf_grow rowOk_grow rowOf_alloc rowOk_alloc

def blget (xs : List Bool) (i : Nat) : Bool := xs[i]?.getD false
/-- A slice of bools. -/
def Bls (w : World) (B : Nat) (v : Value) (xs : List Bool) : Prop := Row w B 1 v xs.length (fun i => .bool (blget xs i))
theorem Bls.below {w w' : World} {B : Nat} {v : Value} {xs : List Bool} (h : Bls w B v xs) {B' : Nat} (hb : Below B' w w') (hB : B ≤ B') : Bls w' B v xs := Row.below h hb hB
theorem Bls.mono {w : World} {B : Nat} {v : Value} {xs : List Bool} (h : Bls w B v xs) {B' : Nat} (hB : B ≤ B') : Bls w B' v xs := Row.mono h hB
set_option maxRecDepth 100000 in
set_option maxHeartbeats 1000000 in
theorem fits2_any (k : Int) (hk : k = 1 ∨ k = 2) (a b : Bool) (xv : Value) (w : World) {B : Nat} (hx : Bls w B xv [a, b]) (_hB : B ≤ w.heap.size) : Gives Tryz.prog 54 #[.int .i64 k, xv] w (.bool (asksB k a b false)) := by
  unfold Gives
  obtain ⟨_, xa, xc, rfl, _, _, hr⟩ := hx
  obtain ⟨p, po, rfl, hp, hc⟩ := hr (by simp)
  have c0 : w.cell? ⟨p, po, none⟩ = some (.bool a) := hc 0 (by simp)
  have c1 : w.cell? ⟨p, po + 1, none⟩ = some (.bool b) := hc 1 (by simp)
  clear hr hc
  simp only [List.length_cons, List.length_nil, Nat.reduceAdd]
  rcases hk with rfl | rfl
  all_goals cases a <;> cases b
  all_goals
    go_enter Tryz.func54, Tryz.ntmps54
    go_wp2
    go_ret
    exact ⟨rfl, Below.refl _ _⟩
set_option maxRecDepth 100000 in
set_option maxHeartbeats 4000000 in
theorem fits3_any (k : Int) (hk : k = 3 ∨ k = 4 ∨ k = 5) (a b c : Bool) (xv : Value) (w : World) {B : Nat} (hx : Bls w B xv [a, b, c]) (hB : B ≤ w.heap.size) : Gives Tryz.prog 54 #[.int .i64 k, xv] w (.bool (asksB k a b c)) := by
  unfold Gives
  obtain ⟨_, xa, xc, rfl, _, _, hr⟩ := hx
  obtain ⟨p, po, rfl, hp, hc⟩ := hr (by simp)
  have c0 : w.cell? ⟨p, po, none⟩ = some (.bool a) := hc 0 (by simp)
  have c1 : w.cell? ⟨p, po + 1, none⟩ = some (.bool b) := hc 1 (by simp)
  have c2 : w.cell? ⟨p, po + 2, none⟩ = some (.bool c) := hc 2 (by simp)
  have zp : p < w.heap.size := by omega
  clear hr hc
  simp only [List.length_cons, List.length_nil, Nat.reduceAdd]
  rcases hk with rfl | rfl | rfl
  all_goals cases a <;> cases b <;> cases c
  all_goals
    go_enter Tryz.func54, Tryz.ntmps54
    go_wp2_with fail
    refine wp_region_qb (by kernel_rfl) (by kernel_rfl) ?_
    repeat go_big_quiet_step (fail)
    refine wpQuiet_nil ?_
    intro w2 hb2
    have HB2 := Lib.hid hb2
    clear hb2
    go_wp2
    go_ret
    exact ⟨rfl, HB2.out⟩
end Go.Proofs.YtilbbnjfaoldoaaGreatDoor
