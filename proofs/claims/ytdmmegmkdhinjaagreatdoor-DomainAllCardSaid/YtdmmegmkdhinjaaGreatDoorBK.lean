/- The reference of Domain: in, all, Has, one, Small, comparisons of lists. · The reference of Domain: Rule, Prob. · The reference of Domain: Prob. -/
import Derived.Test.YtdmmegmkdhinjaaGreatDoorBJ
namespace Go.Proofs.YtdmmegmkdhinjaaGreatDoor
open Go Go.RowKit
attribute [local go_sem] cell_grow u64_sAnd u64_sOr u64_sDiff sDiff_all zeqI zneI sAnd_bit_zero sAnd_bit_zeroN sAnd_bit_nonzero

set_option maxHeartbeats 400000 in
theorem in_any (n l h : Int) (w : World) :
    Calls Tryz.prog 46 #[.int .i64 n, .int .i64 l, .int .i64 h] w fun e w' => e = .returned (.bool (inB n l h)) ∧ w' = w := by
  go_enter Tryz.func46, Tryz.ntmps46
  by_cases h1 : l ≤ n
  all_goals by_cases h2 : n ≤ h
  all_goals go_wp2; go_ret
  all_goals exact ⟨by simp [inB, *], rfl⟩
theorem allB_no {l : List Int} {lo hi : Int} {k : Nat} (hk : k < l.length) (h : inB (iget l k) lo hi = false) : allB l lo hi = false := by
  rw [Bool.eq_false_iff]
  intro hc
  have := List.all_eq_true.1 hc (iget l k) (by unfold iget; rw [List.getElem?_eq_getElem hk]; exact List.getElem_mem hk)
  rw [h] at this; cases this
theorem allB_yes {l : List Int} {lo hi : Int} (h : ∀ k, k < l.length → inB (iget l k) lo hi = true) : allB l lo hi = true := by
  unfold allB
  rw [List.all_eq_true]
  intro x hx
  obtain ⟨k, hk, rfl⟩ := List.mem_iff_getElem.1 hx
  have := h k hk
  simpa [iget, hk] using this
set_option maxRecDepth 100000 in
set_option maxHeartbeats 1000000 in
theorem all_any (l : List Int) (lo hi : Int) (v : Value) (w : World) {B : Nat} (hl : Ints w B v l) :
    Calls Tryz.prog 76 #[v, .int .i64 lo, .int .i64 hi] w fun e w' => e = .returned (.bool (allB l lo hi)) ∧ w' = w := by
  obtain ⟨hn, a, c, rfl, _, _, hr⟩ := hl
  have HR := Lib.hid hr
  clear hr
  go_enter Tryz.func76, Tryz.ntmps76
  go_wp2
  go_loop [7] (fun i => ∃ k : Nat, k ≤ l.length ∧ i = .int .i64 k ∧ ∀ j, j < k → inB (iget l j) lo hi = true) (fun i => l.length - (intOf i).toNat)
  case atStart => exact ⟨0, Nat.zero_le _, rfl, fun j hj => absurd hj (Nat.not_lt_zero _)⟩
  case round =>
    obtain ⟨k, hk, rfl, hall⟩ := hrel
    have HALL := Lib.hid hall
    clear hall
    by_cases hlt : k < l.length
    · obtain ⟨b, off, rfl, _, hcell⟩ := HR.out (by omega)
      have c0 : w.cell? ⟨b, off + k, none⟩ = some (.int .i64 (iget l k)) := hcell k (by omega)
      clear hcell
      cases hin : inB (iget l k) lo hi
      · have HN := Lib.hid (allB_no hlt hin)
        go_wp2_with (go_at_call 46; refine (in_any _ _ _ _).mono ?_; rintro e w' ⟨rfl, rfl⟩; rw [hin])
        go_ret
        exact ⟨by rw [HN.out]; rfl, rfl⟩
      · have HI := Lib.hid hin
        go_wp2_with (go_at_call 46; refine (in_any _ _ _ _).mono ?_; rintro e w' ⟨rfl, rfl⟩; rw [HI.out])
        go_round
        case rel => exact ⟨k + 1, by omega, by go_num, fun j hj => if h : j = k then h ▸ HI.out else HALL.out j (by omega)⟩
        case measure => simp [intOf]; omega
    · have hk2 : k = l.length := by omega
      subst hk2
      have HY := Lib.hid (allB_yes HALL.out)
      go_wp2
      go_ret
      exact ⟨by rw [HY.out]; rfl, rfl⟩
theorem bit_mask (s e : Nat) (hs : U64 s) : (bits .and .u64 ((s : Int) / 2 ^ e) 1 == 1) = s.testBit e := by
  have hs' : s < 18446744073709551616 := hs
  have e1 : ((s : Int) / 2 ^ e) = ((s / 2 ^ e : Nat) : Int) := by simp
  have hlt : s / 2 ^ e < 18446744073709551616 := Nat.lt_of_le_of_lt (Nat.div_le_self _ _) hs'
  rw [e1, show (1 : Int) = ((1 : Nat) : Int) from rfl, u64_and_nat _ _ hlt (by decide)]
  rw [Nat.testBit_eq_decide_div_mod_eq, Nat.and_one_is_mod]
  rw [Bool.eq_iff_iff]; simp; omega
set_option maxHeartbeats 400000 in
theorem refHas_any (d : Nat) (v : Int) (w : World) (hd : U64 d) :
    Calls Tryz.prog 61 #[.int .u64 (d : Nat), .int .i64 v] w fun r w' => r = .returned (.bool (hasD d v)) ∧ w' = w := by
  cases hin : inB v 0 15
  case false =>
    have hr : hasD d v = false := by unfold hasD; rw [hin]; rfl
    have HR := Lib.hid hr
    clear hr
    go_enter Tryz.func61, Tryz.ntmps61
    go_wp2_with (go_at_call 46; refine (in_any _ _ _ _).mono ?_; rintro e w' ⟨rfl, rfl⟩; rw [hin])
    go_ret
    exact ⟨by rw [HR.out]; rfl, rfl⟩
  case true =>
    have h0 : 0 ≤ v ∧ v ≤ 15 := by unfold inB at hin; simpa using hin
    obtain ⟨k, rfl⟩ : ∃ k : Nat, v = k := ⟨v.toNat, by omega⟩
    have hk : k < 64 := by omega
    have hr : hasD d (k : Int) = d.testBit k := by unfold hasD; rw [hin, Int.toNat_natCast]; rfl
    have HR := Lib.hid hr; have HIN := Lib.hid hin
    have hm := bit_mask d k hd
    clear hr h0 hin
    go_enter Tryz.func61, Tryz.ntmps61
    go_wp2_with (go_at_call 46; refine (in_any _ _ _ _).mono ?_; rintro e w' ⟨rfl, rfl⟩; rw [HIN.out])
    go_ret
    exact ⟨by rw [HR.out]; rfl, rfl⟩
set_option maxHeartbeats 400000 in
theorem refOne_any (e : Nat) (w : World) (h1 : e < 64) :
    Calls Tryz.prog 92 #[.int .i64 (e : Nat)] w fun r w' => r = .returned (.int .u64 (bitN e : Nat)) ∧ w' = w := by
  have hw := wrap_bit e h1
  go_enter Tryz.func92, Tryz.ntmps92
  go_wp2
  go_ret
  exact ⟨rfl, rfl⟩
set_option maxRecDepth 100000 in
set_option maxHeartbeats 400000 in
theorem sameInts_any (a b : List Int) (av bv : Value) (w : World) {B : Nat} (ha : Ints w B av a) (hb : Ints w B bv b) (hB : B ≤ w.heap.size) : Gives Tryz.prog 18 #[av, bv] w (.bool (sameI a b)) := by
  unfold Gives
  obtain ⟨hna, aa, ac, rfl, _, _, hra⟩ := ha.mono hB
  obtain ⟨hnb, ba, bc, rfl, _, _, hrb⟩ := hb.mono hB
  clear ha hb
  by_cases hl : a.length = b.length
  · rw [← hl] at hrb hnb ⊢
    have HL := Lib.hid hl
    clear hl
    have HRA := Lib.hid hra; have HRB := Lib.hid hrb
    clear hra hrb
    go_enter Tryz.func18, Tryz.ntmps18
    go_wp2_with fail
    go_loopw [5] (fun i wr => ∃ k : Nat, k ≤ a.length ∧ i = .int .i64 k ∧ (∀ j, j < k → iget a j = iget b j) ∧ Below w.heap.size w wr) (fun i _ => a.length - (intOf i).toNat)
    case atStart => exact ⟨0, Nat.zero_le _, rfl, fun j hj => absurd hj (Nat.not_lt_zero _), Below.refl _ _⟩
    case round =>
      obtain ⟨k, hk, rfl, hall, hb⟩ := hrel
      by_cases hlt : k < a.length
      · obtain ⟨p, po, rfl, hp, hpc⟩ := HRA.out (by omega)
        obtain ⟨q, qo, rfl, hq, hqc⟩ := HRB.out (by omega)
        have c0 : wr.cell? ⟨p, po + k, none⟩ = some (.int .i64 (iget a k)) := (hb.cell (p := ⟨p, po + k, none⟩) hp).trans (hpc k (by omega))
        have c1 : wr.cell? ⟨q, qo + k, none⟩ = some (.int .i64 (iget b k)) := (hb.cell (p := ⟨q, qo + k, none⟩) hq).trans (hqc k (by omega))
        have zp : p < wr.heap.size := by have := hb.size; omega
        have zq : q < wr.heap.size := by have := hb.size; omega
        have HALL := Lib.hid hall; have HB := Lib.hid hb
        clear hpc hqc hall hb
        by_cases he : iget a k = iget b k
        · have HE := Lib.hid he
          have e1 : (iget a k != iget b k) = false := by rw [he]; simp
          clear he
          go_wp2_with fail
          refine wp_region_qb (by kernel_rfl) (by kernel_rfl) ?_
          repeat go_big_quiet_step (fail)
          refine wpQuiet_nil ?_
          intro w2 hb2
          have HB2 := Lib.hid (HB.out.trans (hb2.mono HB.out.size))
          clear hb2
          go_wp2
          go_roundw
          case rel => exact ⟨k + 1, by omega, by go_num, fun j hj => if h : j = k then h ▸ HE.out else HALL.out j (by omega), HB2.out⟩
          case measure => simp [intOf]; omega
        · have HE := Lib.hid he
          have e1 : (iget a k != iget b k) = true := by simp [he]
          clear he
          go_wp2_with fail
          refine wp_region_qb (by kernel_rfl) (by kernel_rfl) ?_
          repeat go_big_quiet_step (fail)
          refine wpQuiet_nil ?_
          intro w2 hb2
          have HB2 := Lib.hid (HB.out.trans (hb2.mono HB.out.size))
          clear hb2
          go_wp2
          go_ret
          exact ⟨by rw [sameI_no HE.out]; rfl, HB2.out⟩
      · have hk2 : k = a.length := by omega
        subst hk2
        have HS := Lib.hid (sameI_yes HL.out hall); have HB := Lib.hid hb
        clear hall hb
        go_wp2
        go_ret
        exact ⟨by rw [HS.out]; rfl, HB.out⟩
  · have HS := Lib.hid (sameI_len hl)
    have e1 : (((a.length : Nat) : Int) != ((b.length : Nat) : Int)) = true := by rw [int_bne]; simp [hl]
    have hl2 : ¬ ((a.length : Int) = (b.length : Int)) := by omega
    clear hra hrb
    go_enter Tryz.func18, Tryz.ntmps18
    go_wp2
    go_ret
    exact ⟨by rw [HS.out]; rfl, Below.refl _ _⟩
def sameN (a b : List Nat) : Bool := decide (a = b)
theorem sameN_len {a b : List Nat} (h : a.length ≠ b.length) : sameN a b = false := by unfold sameN; exact decide_eq_false fun e => h (by rw [e])
theorem sameN_no {a b : List Nat} {k : Nat} (h : nget a k ≠ nget b k) : sameN a b = false := by unfold sameN; exact decide_eq_false fun e => h (by rw [e])
theorem sameN_yes {a b : List Nat} (hl : a.length = b.length) (h : ∀ i, i < a.length → nget a i = nget b i) : sameN a b = true := by
  unfold sameN
  apply decide_eq_true
  apply List.ext_getElem hl
  intro i h1 h2
  have := h i h1
  simpa [nget, h1, h2] using this
set_option maxRecDepth 100000 in
set_option maxHeartbeats 400000 in
theorem sameDoms_any (a b : List Nat) (av bv : Value) (w : World) {B : Nat} (ha : Us w B av a) (hb : Us w B bv b) (hB : B ≤ w.heap.size) : Gives Tryz.prog 12 #[av, bv] w (.bool (sameN a b)) := by
  unfold Gives
  obtain ⟨hna, aa, ac, rfl, _, _, hra⟩ := ha.mono hB
  obtain ⟨hnb, ba, bc, rfl, _, _, hrb⟩ := hb.mono hB
  clear ha hb
  by_cases hl : a.length = b.length
  · rw [← hl] at hrb hnb ⊢
    have HL := Lib.hid hl
    clear hl
    have HRA := Lib.hid hra; have HRB := Lib.hid hrb
    clear hra hrb
    go_enter Tryz.func12, Tryz.ntmps12
    go_wp2_with fail
    go_loopw [5] (fun i wr => ∃ k : Nat, k ≤ a.length ∧ i = .int .i64 k ∧ (∀ j, j < k → nget a j = nget b j) ∧ Below w.heap.size w wr) (fun i _ => a.length - (intOf i).toNat)
    case atStart => exact ⟨0, Nat.zero_le _, rfl, fun j hj => absurd hj (Nat.not_lt_zero _), Below.refl _ _⟩
    case round =>
      obtain ⟨k, hk, rfl, hall, hb⟩ := hrel
      by_cases hlt : k < a.length
      · obtain ⟨p, po, rfl, hp, hpc⟩ := HRA.out (by omega)
        obtain ⟨q, qo, rfl, hq, hqc⟩ := HRB.out (by omega)
        have c0 : wr.cell? ⟨p, po + k, none⟩ = some (.int .u64 (nget a k : Nat)) := (hb.cell (p := ⟨p, po + k, none⟩) hp).trans (hpc k (by omega))
        have c1 : wr.cell? ⟨q, qo + k, none⟩ = some (.int .u64 (nget b k : Nat)) := (hb.cell (p := ⟨q, qo + k, none⟩) hq).trans (hqc k (by omega))
        have zp : p < wr.heap.size := by have := hb.size; omega
        have zq : q < wr.heap.size := by have := hb.size; omega
        have HALL := Lib.hid hall; have HB := Lib.hid hb
        clear hpc hqc hall hb
        by_cases he : nget a k = nget b k
        · have HE := Lib.hid he
          have e1 : (((nget a k : Nat) : Int) != ((nget b k : Nat) : Int)) = false := by rw [int_bne]; simp [he]
          clear he
          go_wp2_with fail
          refine wp_region_qb (by kernel_rfl) (by kernel_rfl) ?_
          repeat go_big_quiet_step (fail)
          refine wpQuiet_nil ?_
          intro w2 hb2
          have HB2 := Lib.hid (HB.out.trans (hb2.mono HB.out.size))
          clear hb2
          go_wp2
          go_roundw
          case rel => exact ⟨k + 1, by omega, by go_num, fun j hj => if h : j = k then h ▸ HE.out else HALL.out j (by omega), HB2.out⟩
          case measure => simp [intOf]; omega
        · have HE := Lib.hid he
          have e1 : (((nget a k : Nat) : Int) != ((nget b k : Nat) : Int)) = true := by rw [int_bne]; simp [he]
          clear he
          go_wp2_with fail
          refine wp_region_qb (by kernel_rfl) (by kernel_rfl) ?_
          repeat go_big_quiet_step (fail)
          refine wpQuiet_nil ?_
          intro w2 hb2
          have HB2 := Lib.hid (HB.out.trans (hb2.mono HB.out.size))
          clear hb2
          go_wp2
          go_ret
          exact ⟨by rw [sameN_no HE.out]; rfl, HB2.out⟩
      · have hk2 : k = a.length := by omega
        subst hk2
        have HS := Lib.hid (sameN_yes HL.out hall); have HB := Lib.hid hb
        clear hall hb
        go_wp2
        go_ret
        exact ⟨by rw [HS.out]; rfl, HB.out⟩
  · have HS := Lib.hid (sameN_len hl)
    have e1 : (((a.length : Nat) : Int) != ((b.length : Nat) : Int)) = true := by rw [int_bne]; simp [hl]
    have hl2 : ¬ ((a.length : Int) = (b.length : Int)) := by omega
    clear hra hrb
    go_enter Tryz.func12, Tryz.ntmps12
    go_wp2
    go_ret
    exact ⟨by rw [HS.out]; rfl, Below.refl _ _⟩
def smallD (p : Dp) : Bool := decide (p.doms.length ≤ 9) && decide (p.rules.length ≤ 13) && (List.range p.rules.length).all fun i => decide ((drget p.rules i).vars.length ≤ 5) && decide ((drget p.rules i).nums.length ≤ 17)
theorem smallD_no {p : Dp} {k : Nat} (hk : k < p.rules.length) (h : ¬ ((drget p.rules k).vars.length ≤ 5 ∧ (drget p.rules k).nums.length ≤ 17)) : smallD p = false := by
  have : ((List.range p.rules.length).all fun i => decide ((drget p.rules i).vars.length ≤ 5) && decide ((drget p.rules i).nums.length ≤ 17)) = false := by
    rw [Bool.eq_false_iff]; intro hc
    have := List.all_eq_true.1 hc k (List.mem_range.2 hk)
    simp at this; omega
  unfold smallD; rw [this, Bool.and_false]
set_option maxRecDepth 100000 in
set_option maxHeartbeats 1000000 in
theorem small_any (p : Dp) (dv rv : Value) (w : World) {B : Nat} (hdv : Us w B dv p.doms) (hrv : DRls w B rv p.rules) (hB : B ≤ w.heap.size) :
    Gives Tryz.prog 7 #[.agg #[dv, rv]] w (.bool (smallD p)) := by
  unfold Gives
  have HDV := Lib.hid hdv; have HRV := Lib.hid hrv
  have hbl := hdv.1
  have hrl := hrv.len
  obtain ⟨da, dc, rfl⟩ := hdv.slice
  obtain ⟨ra, rc, rfl⟩ := hrv.slice
  clear hdv hrv
  have HB0 := Lib.hid (Below.new1 w (.cells #[.slice da p.doms.length dc, .slice ra p.rules.length rc] 25))
  go_enter Tryz.func7, Tryz.ntmps7
  by_cases h0 : p.doms.length ≤ 9
  · by_cases h1 : p.rules.length ≤ 13
    · have h0i : ¬ (9 : Int) < ((p.doms.length : Nat) : Int) := by omega
      have h1i : ¬ (13 : Int) < ((p.rules.length : Nat) : Int) := by omega
      go_wp2_with fail
      go_loop [3] (fun i => ∃ k : Nat, k ≤ p.rules.length ∧ i = .int .i64 k ∧ (∀ j, j < k → (drget p.rules j).vars.length ≤ 5 ∧ (drget p.rules j).nums.length ≤ 17)) (fun i => p.rules.length - (intOf i).toNat)
      case atStart => exact ⟨0, Nat.zero_le _, rfl, fun j hj => absurd hj (Nat.not_lt_zero _)⟩
      case round =>
        obtain ⟨k, hk, rfl, hall⟩ := hrel
        have HALL := Lib.hid hall
        clear hall
        by_cases hlt : k < p.rules.length
        · obtain ⟨rb, ro, vv, nv, rfl, hrb, hra, q0, q1, q2, q3⟩ := (HRV.out.below HB0.out hB).cells hlt
          obtain ⟨va, vc, rfl⟩ := hra.vars.slice
          obtain ⟨na, nc, rfl⟩ := hra.nums.slice
          have hvl := hra.vars.1
          have hnl := hra.nums.1
          clear q0 q3 hra
          by_cases h5 : (drget p.rules k).vars.length ≤ 5
          · have h5i : ¬ (5 : Int) < (((drget p.rules k).vars.length : Nat) : Int) := by omega
            by_cases h17 : (drget p.rules k).nums.length ≤ 17
            · have HS := Lib.hid (And.intro h5 h17)
              have h17i : ¬ (17 : Int) < (((drget p.rules k).nums.length : Nat) : Int) := by omega
              go_wp2
              go_round
              case rel => exact ⟨k + 1, by omega, by go_num, fun j hj => if h : j = k then h ▸ HS.out else HALL.out j (by omega)⟩
              case measure => simp [intOf]; omega
            · have HN := Lib.hid (smallD_no hlt (fun h => h17 h.2))
              have h17i : (17 : Int) < (((drget p.rules k).nums.length : Nat) : Int) := by omega
              go_wp2
              go_ret
              exact ⟨by rw [HN.out]; rfl, HB0.out⟩
          · have HN := Lib.hid (smallD_no hlt (fun h => h5 h.1))
            have h5i : (5 : Int) < (((drget p.rules k).vars.length : Nat) : Int) := by omega
            go_wp2
            go_ret
            exact ⟨by rw [HN.out]; rfl, HB0.out⟩
        · have hk2 : k = p.rules.length := by omega
          subst hk2
          have HY : Hid (smallD p = true) := Lib.hid (by
            unfold smallD
            rw [decide_eq_true h0, decide_eq_true h1, Bool.true_and, Bool.true_and, List.all_eq_true]
            intro i hi
            have := HALL.out i (List.mem_range.1 hi)
            rw [decide_eq_true this.1, decide_eq_true this.2]; rfl)
          go_wp2
          go_ret
          exact ⟨by rw [HY.out]; rfl, HB0.out⟩
    · have HN : Hid (smallD p = false) := Lib.hid (by unfold smallD; rw [decide_eq_false h1]; simp)
      have h0i : ¬ (9 : Int) < ((p.doms.length : Nat) : Int) := by omega
      have h1i : (13 : Int) < ((p.rules.length : Nat) : Int) := by omega
      go_wp2
      go_ret
      exact ⟨by rw [HN.out]; rfl, HB0.out⟩
  · have HN : Hid (smallD p = false) := Lib.hid (by unfold smallD; rw [decide_eq_false h0]; simp)
    have h0i : (9 : Int) < ((p.doms.length : Nat) : Int) := by omega
    go_wp2
    go_ret
    exact ⟨by rw [HN.out]; rfl, HB0.out⟩
/-- A slice of lists of ints. -/
def Lls (w : World) (B : Nat) (v : Value) (ss : List (List Int)) : Prop := ∃ c, Row w B 1 v ss.length c ∧ ∀ i, i < ss.length → Ints w B (c i) (lget ss i)
theorem Lls.below {w w' : World} {B : Nat} {v : Value} {xs : List (List Int)} (h : Lls w B v xs) {B' : Nat} (hb : Below B' w w') (hB : B ≤ B') : Lls w' B v xs :=
  let ⟨c, hr, hc⟩ := h
  ⟨c, hr.below hb hB, fun i hi => (hc i hi).below hb hB⟩
theorem Lls.mono {w : World} {B : Nat} {v : Value} {xs : List (List Int)} (h : Lls w B v xs) {B' : Nat} (hB : B ≤ B') : Lls w B' v xs :=
  let ⟨c, hr, hc⟩ := h
  ⟨c, hr.mono hB, fun i hi => (hc i hi).mono hB⟩
theorem LOwn.lls {w : World} {base : Nat} {v : Value} {ss : List (List Int)} (h : LOwn w base v ss) (hn : ss.length ≤ 100000) (hs : ∀ i, i < ss.length → (lget ss i).length ≤ 1000) : Lls w w.heap.size v ss := by
  obtain ⟨cs, h1, h2⟩ := h
  refine ⟨fun i => cs[i]?.getD undef, ownsRow_row h1 (by omega) (fun i hi => ?_), fun i hi => ?_⟩
  · have : i < cs.length := by rw [h1.1]; exact hi
    rw [List.getElem?_eq_getElem this]; rfl
  · obtain ⟨yv, e5, e6⟩ := h2 i hi
    have := hs i hi
    simp only [e5, Option.getD_some]
    exact ownsRow_ints e6 (by omega) rfl
def sameL (a b : List (List Int)) : Bool := decide (a = b)
theorem sameL_len {a b : List (List Int)} (h : a.length ≠ b.length) : sameL a b = false := by unfold sameL; exact decide_eq_false fun e => h (by rw [e])
theorem sameL_no {a b : List (List Int)} {k : Nat} (h : lget a k ≠ lget b k) : sameL a b = false := by unfold sameL; exact decide_eq_false fun e => h (by rw [e])
theorem sameL_yes {a b : List (List Int)} (hl : a.length = b.length) (h : ∀ i, i < a.length → lget a i = lget b i) : sameL a b = true := by
  unfold sameL
  apply decide_eq_true
  apply List.ext_getElem hl
  intro i h1 h2
  have := h i h1
  simpa [lget, h1, h2] using this
theorem lls_cell {w wr : World} {B : Nat} {v : Value} {ss : List (List Int)} (h : Lls w B v ss) (hB : B ≤ w.heap.size) (hb : Below w.heap.size w wr) {k : Nat} (hk : k < ss.length) :
    ∃ p po q n c, v = .slice (some ⟨p, po, none⟩) ss.length n ∧ p < wr.heap.size ∧ wr.cell? ⟨p, po + k, none⟩ = some (.slice q (lget ss k).length c) ∧ Ints wr B (.slice q (lget ss k).length c) (lget ss k) := by
  obtain ⟨c, ⟨hn, a, cap, rfl, _, _, hr⟩, hc⟩ := h
  obtain ⟨p, po, rfl, hp, hpc⟩ := hr (by omega)
  have hu := (hc k hk)
  obtain ⟨q, cc, hq⟩ := hu.slice
  rw [hq] at hu
  refine ⟨p, po, q, cap, cc, rfl, by have := hb.size; omega, ?_, hu.below hb hB⟩
  rw [hb.cell (p := ⟨p, po + k, none⟩) (by show p < w.heap.size; omega), hpc k (by omega), hq]
set_option maxRecDepth 100000 in
set_option maxHeartbeats 1000000 in
theorem sameLists_any (a b : List (List Int)) (av bv : Value) (w : World) {B : Nat} (ha : Lls w B av a) (hb : Lls w B bv b) (hB : B ≤ w.heap.size) : Gives Tryz.prog 24 #[av, bv] w (.bool (sameL a b)) := by
  unfold Gives
  have HA := Lib.hid ha; have HBB := Lib.hid hb
  obtain ⟨ca, ⟨hna, aa, ac, rfl, _, _, _⟩, _⟩ := ha
  obtain ⟨cb, ⟨hnb, ba, bc, rfl, _, _, _⟩, _⟩ := hb
  by_cases hl : a.length = b.length
  · have HL := Lib.hid hl
    rw [← hl] at HBB ⊢
    clear hl
    go_enter Tryz.func24, Tryz.ntmps24
    go_wp2_with fail
    go_loopw [5] (fun i wr => ∃ k : Nat, k ≤ a.length ∧ i = .int .i64 k ∧ (∀ j, j < k → lget a j = lget b j) ∧ Below w.heap.size w wr) (fun i _ => a.length - (intOf i).toNat)
    case atStart => exact ⟨0, Nat.zero_le _, rfl, fun j hj => absurd hj (Nat.not_lt_zero _), Below.refl _ _⟩
    case round =>
      obtain ⟨k, hk, rfl, hall, hb⟩ := hrel
      obtain ⟨wo, rfl⟩ : ∃ wo : World, wo = wr := ⟨_, rfl⟩
      by_cases hlt : k < a.length
      · obtain ⟨p, po, qa, na, cqa, hav, zp, c0, ua⟩ := lls_cell HA.out hB hb hlt
        obtain ⟨q, qo, qb, nb, cqb, hbv, zq, c1, ub⟩ := lls_cell (HBB.out) hB hb (k := k) (by rw [← HL.out]; exact hlt)
        cases hav
        simp only [Value.slice.injEq] at hbv
        obtain ⟨rfl, hx, rfl⟩ := hbv
        clear hx
        have HALL := Lib.hid hall; have HB := Lib.hid hb; have UA := Lib.hid ua; have UB := Lib.hid ub
        have hBs := hb.size
        clear hall hb ua ub
        have HS := Lib.hid (fun (d : Nat) (os : Array Obj) => sameInts_any (lget a k) (lget b k) _ _ (Go.Sort.grow (redrawn wo d) os) (B := wo.heap.size) ((UA.out.mono (show B ≤ wo.heap.size by omega)).below (below_regrown wo d os) (Nat.le_refl _)) ((UB.out.mono (show B ≤ wo.heap.size by omega)).below (below_regrown wo d os) (Nat.le_refl _)) (below_regrown wo d os).size)
        cases hs : sameI (lget a k) (lget b k) <;> rw [hs] at HS
        · have HN := Lib.hid (sameL_no (a := a) (b := b) (k := k) (fun h => by rw [h] at hs; unfold sameI at hs; simp at hs))
          clear hs
          go_wp2_with fail
          refine wp_region_qb (by kernel_rfl) (by kernel_rfl) ?_
          repeat go_big_quiet_step ((with_reducible exact Gives.quiet (HS.out _ _)))
          refine wpQuiet_nil ?_
          intro w2 hb2
          have HB2 := Lib.hid (HB.out.trans (hb2.mono HB.out.size))
          clear hb2
          go_wp2
          go_ret
          exact ⟨by rw [HN.out]; rfl, HB2.out⟩
        · have HE : Hid (lget a k = lget b k) := Lib.hid (by unfold sameI at hs; simpa using hs)
          clear hs
          go_wp2_with fail
          refine wp_region_qb (by kernel_rfl) (by kernel_rfl) ?_
          repeat go_big_quiet_step ((with_reducible exact Gives.quiet (HS.out _ _)))
          refine wpQuiet_nil ?_
          intro w2 hb2
          have HB2 := Lib.hid (HB.out.trans (hb2.mono HB.out.size))
          clear hb2
          go_wp2
          go_roundw
          case rel => exact ⟨k + 1, by omega, by go_num, fun j hj => if h : j = k then h ▸ HE.out else HALL.out j (by omega), HB2.out⟩
          case measure => simp [intOf]; omega
      · have hk2 : k = a.length := by omega
        subst hk2
        have HS := Lib.hid (sameL_yes HL.out hall); have HB := Lib.hid hb
        clear hall hb
        go_wp2
        go_ret
        exact ⟨by rw [HS.out]; rfl, HB.out⟩
  · have HS := Lib.hid (sameL_len hl)
    have e1 : (((a.length : Nat) : Int) != ((b.length : Nat) : Int)) = true := by rw [int_bne]; simp [hl]
    have hl2 : ¬ ((a.length : Int) = (b.length : Int)) := by omega
    go_enter Tryz.func24, Tryz.ntmps24
    go_wp2
    go_ret
    exact ⟨by rw [HS.out]; rfl, Below.refl _ _⟩
end Go.Proofs.YtdmmegmkdhinjaaGreatDoor

namespace Go.Proofs.YtdmmegmkdhinjaaGreatDoor
open Go Go.RowKit
attribute [local go_sem] cell_grow u64_sAnd u64_sOr u64_sDiff sDiff_all zeqI zneI sAnd_bit_zero sAnd_bit_zeroN sAnd_bit_nonzero

theorem formD_kind {r : Dr} (h : formD r = true) : inB r.kind 1 4 = true := by
  unfold formD at h
  unfold inB
  by_cases h1 : r.kind = 1
  · rw [h1]; decide
  by_cases h2 : r.kind = 2
  · rw [h2]; decide
  by_cases h3 : r.kind = 3
  · rw [h3]; decide
  by_cases h4 : r.kind = 4
  · rw [h4]; decide
  rw [if_neg h1, if_neg h2, if_neg h3, if_neg h4] at h
  cases h
theorem ruleD_eq (r : Dr) (n : Int) : ruleD r n = (decide ((r.vars.length : Int) ≤ 4) && allB r.vars 0 (n - 1) && inB r.n (-1000) 1000 && distinctD r.vars && formD r) := by
  unfold ruleD
  cases hf : formD r
  · simp
  · rw [formD_kind hf]; simp
theorem distinct_no {vars : List Int} {i k : Nat} (hi : i < vars.length) (hk : k < i) (h : iget vars i = iget vars k) : distinctD vars = false := by
  unfold distinctD
  rw [Bool.eq_false_iff]
  intro hc
  have := List.all_eq_true.1 hc i (List.mem_range.2 hi)
  rw [ihas_yes (by omega) hk h.symm] at this
  cases this
theorem distinct_yes {vars : List Int} (h : ∀ i, i < vars.length → ∀ k, k < i → iget vars i ≠ iget vars k) : distinctD vars = true := by
  unfold distinctD
  rw [List.all_eq_true]
  intro i hi
  rw [ihas_no (Nat.le_of_lt (List.mem_range.1 hi)) (fun j hj => (h i (List.mem_range.1 hi) j hj).symm)]
  rfl
set_option maxRecDepth 100000 in
set_option maxHeartbeats 4000000 in
theorem refRule_any (r : Dr) (many : Int) (vv nv : Value) (w : World) {B : Nat} (hr : RuleAt w B r vv nv) (hB : B ≤ w.heap.size) (hm0 : 0 ≤ many) (hm : many ≤ 100) :
    Gives Tryz.prog 47 #[ruleV r vv nv, .int .i64 many] w (.bool (ruleD r many)) := by
  unfold Gives ruleV
  have HR := Lib.hid hr
  obtain ⟨va, vc, rfl⟩ := hr.vars.slice
  obtain ⟨na, nc, rfl⟩ := hr.nums.slice
  have hvl := hr.vars.1
  have hnl := hr.nums.1
  have HE := Lib.hid (ruleD_eq r many)
  clear hr
  go_enter Tryz.func47, Tryz.ntmps47
  go_upto_region 1 with fail
  refine abs_wp (fun W => W.heap[w.heap.size]? = some (.cells #[.int .i64 r.kind, .slice va r.vars.length vc, .slice na r.nums.length nc, .int .i64 r.n] 69 (0, 0)) ∧ Below w.heap.size w W) ⟨heap_new0 _ _, Below.new1 _ _⟩ ?_
  rintro W ⟨k0, hb⟩
  have z0 : w.heap.size < W.heap.size := (Array.getElem?_eq_some_iff.1 k0).1
  have c0 : W.cell? ⟨w.heap.size, 0, none⟩ = some (.int .i64 r.kind) := by rw [cell_of_row _ _ _ _ _ _ k0]; rfl
  have c1 : W.cell? ⟨w.heap.size, 1, none⟩ = some (.slice va r.vars.length vc) := by rw [cell_of_row _ _ _ _ _ _ k0]; rfl
  have c2 : W.cell? ⟨w.heap.size, 2, none⟩ = some (.slice na r.nums.length nc) := by rw [cell_of_row _ _ _ _ _ _ k0]; rfl
  have c3 : W.cell? ⟨w.heap.size, 3, none⟩ = some (.int .i64 r.n) := by rw [cell_of_row _ _ _ _ _ _ k0]; rfl
  have HB := Lib.hid hb; have K0 := Lib.hid k0
  have HIV := Lib.hid (HR.out.vars.below hb hB); have HIN := Lib.hid (HR.out.nums.below hb hB)
  clear hb k0
  by_cases h4 : r.vars.length ≤ 4
  case neg =>
    have HN : Hid (ruleD r many = false) := Lib.hid (by rw [HE.out, decide_eq_false (by omega)]; rfl)
    have h4i : (4 : Int) < ((r.vars.length : Nat) : Int) := by omega
    go_wp2
    go_ret
    exact ⟨by rw [HN.out]; rfl, HB.out⟩
  case pos =>
    have h4i : ¬ (4 : Int) < ((r.vars.length : Nat) : Int) := by omega
    cases hav : allB r.vars 0 (many - 1)
    case false =>
      have HN : Hid (ruleD r many = false) := Lib.hid (by rw [HE.out, hav]; simp)
      go_wp2_with (go_at_call 76; refine (all_any _ _ _ _ _ HIV.out).mono ?_; rintro e w' ⟨rfl, rfl⟩; rw [hav])
      go_ret
      exact ⟨by rw [HN.out]; rfl, HB.out⟩
    case true =>
      have HAV := Lib.hid hav
      clear hav
      cases hin : inB r.n (-1000) 1000
      case false =>
        have HN : Hid (ruleD r many = false) := Lib.hid (by rw [HE.out, hin]; simp)
        go_wp2_with (first | (go_at_call 76; refine (all_any _ _ _ _ _ HIV.out).mono ?_; rintro e w' ⟨rfl, rfl⟩; rw [HAV.out]) | (go_at_call 46; refine (in_any _ _ _ _).mono ?_; rintro e w' ⟨rfl, rfl⟩; rw [hin]))
        go_ret
        exact ⟨by rw [HN.out]; rfl, HB.out⟩
      case true =>
        have HIR := Lib.hid hin
        clear hin
        have HE2 : Hid (ruleD r many = (distinctD r.vars && formD r)) := Lib.hid (by rw [HE.out, HAV.out, HIR.out, decide_eq_true (by omega)]; simp)
        go_wp2_with (first | (go_at_call 76; refine (all_any _ _ _ _ _ HIV.out).mono ?_; rintro e w' ⟨rfl, rfl⟩; rw [HAV.out]) | (go_at_call 46; refine (in_any _ _ _ _).mono ?_; rintro e w' ⟨rfl, rfl⟩; rw [HIR.out]))
        go_loopw [6, 7] (fun iv kv wr => ∃ i : Nat, i ≤ r.vars.length ∧ iv = .int .i64 i ∧ (∀ a, a < i → ∀ b, b < a → iget r.vars a ≠ iget r.vars b) ∧ wr.heap[w.heap.size]? = some (.cells #[.int .i64 r.kind, .slice va r.vars.length vc, .slice na r.nums.length nc, .int .i64 r.n] 69 (0, 0)) ∧ Below w.heap.size w wr) (fun iv _ _ => r.vars.length - (intOf iv).toNat)
        case atStart => exact ⟨0, Nat.zero_le _, rfl, fun a ha => absurd ha (Nat.not_lt_zero _), K0.out, HB.out⟩
        case round =>
          obtain ⟨i, hi, rfl, hall, k0, hb⟩ := hrel
          obtain ⟨wo, rfl⟩ : ∃ wo : World, wo = wr := ⟨_, rfl⟩
          have HALL := Lib.hid hall; have KO := Lib.hid k0; have HBO := Lib.hid hb
          clear hall k0 hb c0 c1 c2 c3 HIV HIN K0 HB z0
          by_cases hlt : i < r.vars.length
          · go_wp2_with fail
            go_loopw [7] (fun kv wr => ∃ k : Nat, k ≤ i ∧ kv = .int .i64 k ∧ (∀ b, b < k → iget r.vars i ≠ iget r.vars b) ∧ wr.heap[w.heap.size]? = some (.cells #[.int .i64 r.kind, .slice va r.vars.length vc, .slice na r.nums.length nc, .int .i64 r.n] 69 (0, 0)) ∧ Below w.heap.size w wr) (fun kv _ => i - (intOf kv).toNat)
            case atStart => exact ⟨0, Nat.zero_le _, rfl, fun a ha => absurd ha (Nat.not_lt_zero _), KO.out, HBO.out⟩
            case round =>
              obtain ⟨k, hk, rfl, hak, k1, hb⟩ := hrel
              clear KO HBO
              have z1 : w.heap.size < wr.heap.size := (Array.getElem?_eq_some_iff.1 k1).1
              have c1 : wr.cell? ⟨w.heap.size, 1, none⟩ = some (.slice va r.vars.length vc) := by rw [cell_of_row _ _ _ _ _ _ k1]; rfl
              obtain ⟨_, a', c', hae, hcc, _, hir⟩ := HR.out.vars.below hb hB
              cases hae
              obtain ⟨b1, o1, rfl, hb1, hc1⟩ := hir (by omega)
              have e0 : wr.cell? ⟨b1, o1 + i, none⟩ = some (.int .i64 (iget r.vars i)) := hc1 i (by omega)
              have zb : b1 < wr.heap.size := by have := hb.size; omega
              have HAK := Lib.hid hak; have K1 := Lib.hid k1; have HB1 := Lib.hid hb
              by_cases hki : k < i
              · have e1 : wr.cell? ⟨b1, o1 + k, none⟩ = some (.int .i64 (iget r.vars k)) := hc1 k (by omega)
                clear hak k1 hb hir hc1
                by_cases heq : iget r.vars i = iget r.vars k
                · have HN : Hid (ruleD r many = false) := Lib.hid (by rw [HE2.out, distinct_no hlt hki heq]; rfl)
                  have f1 : (iget r.vars i == iget r.vars k) = true := by rw [heq]; simp
                  clear heq
                  go_wp2_with fail
                  refine wp_region_qb (by kernel_rfl) (by kernel_rfl) ?_
                  repeat go_big_quiet_step (fail)
                  refine wpQuiet_nil ?_
                  intro w2 hb2
                  have HB2 := Lib.hid (HB1.out.trans (hb2.mono HB1.out.size))
                  clear hb2
                  go_wp2
                  go_ret
                  exact ⟨by rw [HN.out]; rfl, HB2.out⟩
                · have f1 : (iget r.vars i == iget r.vars k) = false := by rw [beq_eq_false_iff_ne]; exact heq
                  have HNE := Lib.hid heq
                  clear heq
                  go_wp2_with fail
                  refine wp_region_qb (by kernel_rfl) (by kernel_rfl) ?_
                  repeat go_big_quiet_step (fail)
                  refine wpQuiet_nil ?_
                  intro w2 hb2
                  have HB2 := Lib.hid (HB1.out.trans (hb2.mono HB1.out.size)); have K2 := Lib.hid (heap_later K1.out hb2 z1)
                  clear hb2
                  go_wp2
                  go_roundw
                  case rel => exact ⟨k + 1, by omega, by go_num, fun b hb => if h : b = k then h ▸ HNE.out else HAK.out b (by omega), K2.out, HB2.out⟩
                  case measure => simp [intOf]; omega
              · have hk2 : k = i := by omega
                subst hk2
                clear hak k1 hb hir hc1
                go_wp2
                go_roundw
                case rel => exact ⟨k + 1, by omega, by go_num, fun a ha => if h : a = k then h ▸ HAK.out else HALL.out a (by omega), K1.out, HB1.out⟩
                case measure => simp [intOf]; omega
          · have hi2 : i = r.vars.length := by omega
            subst hi2
            have HE3 : Hid (ruleD r many = formD r) := Lib.hid (by rw [HE2.out, distinct_yes (fun a ha b hb => HALL.out a ha b hb)]; rfl)
            have c0 : wo.cell? ⟨w.heap.size, 0, none⟩ = some (.int .i64 r.kind) := by rw [cell_of_row _ _ _ _ _ _ KO.out]; rfl
            have c2 : wo.cell? ⟨w.heap.size, 2, none⟩ = some (.slice na r.nums.length nc) := by rw [cell_of_row _ _ _ _ _ _ KO.out]; rfl
            have c3 : wo.cell? ⟨w.heap.size, 3, none⟩ = some (.int .i64 r.n) := by rw [cell_of_row _ _ _ _ _ _ KO.out]; rfl
            have HNU := Lib.hid (HR.out.nums.below HBO.out hB)
            have HALN := Lib.hid (fun lo hi => all_any r.nums lo hi _ wo HNU.out)
            clear HALL KO
            by_cases k1 : r.kind = 1
            · have HF : Hid (ruleD r many = (decide (1 ≤ (r.vars.length : Int)) && ((r.nums.length : Int) == (r.vars.length : Int)) && allB r.nums (-20) 20)) := Lib.hid (by rw [HE3.out]; unfold formD; rw [if_pos k1])
              rw [k1] at c0
              by_cases a1 : (1 : Int) ≤ (r.vars.length : Int)
              · cases a2 : ((r.nums.length : Int) == (r.vars.length : Int))
                · have HN : Hid (ruleD r many = false) := Lib.hid (by rw [HF.out, a2]; simp)
                  go_wp2
                  go_ret
                  exact ⟨by rw [HN.out]; rfl, HBO.out⟩
                · have HN : Hid (ruleD r many = allB r.nums (-20) 20) := Lib.hid (by rw [HF.out, a2, decide_eq_true a1]; simp)
                  go_wp2_with (go_at_call 76; refine (HALN.out _ _).mono ?_; rintro e w' ⟨rfl, rfl⟩)
                  go_ret
                  exact ⟨by rw [HN.out]; rfl, HBO.out⟩
              · have HN : Hid (ruleD r many = false) := Lib.hid (by rw [HF.out, decide_eq_false a1]; simp)
                go_wp2
                go_ret
                exact ⟨by rw [HN.out]; rfl, HBO.out⟩
            have e1 : (r.kind == 1) = false := by rw [beq_eq_false_iff_ne]; exact k1
            by_cases k2 : r.kind = 2
            · have HF : Hid (ruleD r many = (decide (2 ≤ (r.vars.length : Int)) && ((r.nums.length : Int) == 0) && (r.n == 0))) := Lib.hid (by rw [HE3.out]; unfold formD; rw [if_neg k1, if_pos k2])
              rw [k2] at c0 e1
              by_cases a1 : (2 : Int) ≤ (r.vars.length : Int)
              · cases a2 : ((r.nums.length : Int) == 0)
                · have HN : Hid (ruleD r many = false) := Lib.hid (by rw [HF.out, a2]; simp)
                  go_wp2
                  go_ret
                  exact ⟨by rw [HN.out]; rfl, HBO.out⟩
                · have HN : Hid (ruleD r many = (r.n == 0)) := Lib.hid (by rw [HF.out, a2, decide_eq_true a1]; simp)
                  go_wp2
                  go_ret
                  exact ⟨by rw [HN.out]; rfl, HBO.out⟩
              · have HN : Hid (ruleD r many = false) := Lib.hid (by rw [HF.out, decide_eq_false a1]; simp)
                go_wp2
                go_ret
                exact ⟨by rw [HN.out]; rfl, HBO.out⟩
            have e2 : (r.kind == 2) = false := by rw [beq_eq_false_iff_ne]; exact k2
            by_cases k3 : r.kind = 3
            · have HF : Hid (ruleD r many = (((r.vars.length : Int) == 2) && inB r.nums.length 1 16 && allB r.nums 0 15 && (r.n == 0))) := Lib.hid (by rw [HE3.out]; unfold formD; rw [if_neg k1, if_neg k2, if_pos k3])
              rw [k3] at c0 e1 e2
              cases a1 : ((r.vars.length : Int) == 2)
              · have HN : Hid (ruleD r many = false) := Lib.hid (by rw [HF.out, a1]; simp)
                go_wp2
                go_ret
                exact ⟨by rw [HN.out]; rfl, HBO.out⟩
              · cases a2 : inB (r.nums.length : Int) 1 16
                · have HN : Hid (ruleD r many = false) := Lib.hid (by rw [HF.out, a2]; simp)
                  have A2 := Lib.hid a2
                  clear a2
                  go_wp2_with (go_at_call 46; refine (in_any _ _ _ _).mono ?_; rintro e w' ⟨rfl, rfl⟩; rw [A2.out])
                  go_ret
                  exact ⟨by rw [HN.out]; rfl, HBO.out⟩
                · have A2 := Lib.hid a2
                  cases a3 : allB r.nums 0 15
                  · have HN : Hid (ruleD r many = false) := Lib.hid (by rw [HF.out, a3]; simp)
                    have A3 := Lib.hid a3
                    clear a2 a3
                    go_wp2_with (first | (go_at_call 46; refine (in_any _ _ _ _).mono ?_; rintro e w' ⟨rfl, rfl⟩; rw [A2.out]) | (go_at_call 76; refine (HALN.out _ _).mono ?_; rintro e w' ⟨rfl, rfl⟩; rw [A3.out]))
                    go_ret
                    exact ⟨by rw [HN.out]; rfl, HBO.out⟩
                  · have HN : Hid (ruleD r many = (r.n == 0)) := Lib.hid (by rw [HF.out, a3, a2, a1]; simp)
                    have A3 := Lib.hid a3
                    clear a2 a3
                    go_wp2_with (first | (go_at_call 46; refine (in_any _ _ _ _).mono ?_; rintro e w' ⟨rfl, rfl⟩; rw [A2.out]) | (go_at_call 76; refine (HALN.out _ _).mono ?_; rintro e w' ⟨rfl, rfl⟩; rw [A3.out]))
                    go_ret
                    exact ⟨by rw [HN.out]; rfl, HBO.out⟩
            have e3 : (r.kind == 3) = false := by rw [beq_eq_false_iff_ne]; exact k3
            by_cases k4 : r.kind = 4
            · have HF : Hid (ruleD r many = (((r.vars.length : Int) == 2) && ((r.nums.length : Int) == 0))) := Lib.hid (by rw [HE3.out]; unfold formD; rw [if_neg k1, if_neg k2, if_neg k3, if_pos k4])
              rw [k4] at c0 e1 e2 e3
              cases a1 : ((r.vars.length : Int) == 2)
              · have HN : Hid (ruleD r many = false) := Lib.hid (by rw [HF.out, a1]; simp)
                go_wp2
                go_ret
                exact ⟨by rw [HN.out]; rfl, HBO.out⟩
              · have HN : Hid (ruleD r many = (r.nums.length == 0)) := Lib.hid (by rw [HF.out, a1]; rw [Bool.eq_iff_iff]; simp)
                go_wp2
                go_ret
                exact ⟨by rw [HN.out]; rfl, HBO.out⟩
            have e4 : (r.kind == 4) = false := by rw [beq_eq_false_iff_ne]; exact k4
            have HN : Hid (ruleD r many = false) := Lib.hid (by rw [HE3.out]; unfold formD; rw [if_neg k1, if_neg k2, if_neg k3, if_neg k4])
            clear k1 k2 k3 k4
            go_wp2
            go_ret
            exact ⟨by rw [HN.out]; rfl, HBO.out⟩
end Go.Proofs.YtdmmegmkdhinjaaGreatDoor

namespace Go.Proofs.YtdmmegmkdhinjaaGreatDoor
open Go Go.RowKit
attribute [local go_sem] cell_grow u64_sAnd u64_sOr u64_sDiff sDiff_all zeqI zneI sAnd_bit_zero sAnd_bit_zeroN sAnd_bit_nonzero

set_option maxRecDepth 100000 in
set_option maxHeartbeats 4000000 in
theorem refProb_any (p : Dp) (dv rv : Value) (w : World) {B : Nat} (hdv : Us w B dv p.doms) (hrv : DRls w B rv p.rules) (hB : B ≤ w.heap.size) (hu : U64l p.doms) :
    Gives Tryz.prog 10 #[.agg #[dv, rv]] w (.bool (probD p)) := by
  unfold Gives
  have HDV := Lib.hid hdv; have HRV := Lib.hid hrv; have HU := Lib.hid hu
  have hbl := hdv.1
  have hrl := hrv.len
  obtain ⟨da, dc, rfl⟩ := hdv.slice
  obtain ⟨ra, rc, rfl⟩ := hrv.slice
  have HB0 := Lib.hid (Below.new1 w (.cells #[.slice da p.doms.length dc, .slice ra p.rules.length rc] 25)); have HK0 := Lib.hid (heap_new0 w (.cells #[.slice da p.doms.length dc, .slice ra p.rules.length rc] 25))
  clear hdv hrv hu
  go_enter Tryz.func10, Tryz.ntmps10
  cases h0 : inB (p.doms.length : Int) 1 8
  case false =>
    have HN := Lib.hid (probD_no0 h0)
    have H0 := Lib.hid h0
    clear h0
    go_wp2_with (go_at_call 46; refine (in_any _ _ _ _).mono ?_; rintro e w' ⟨rfl, hww⟩; rw [hww]; clear hww w'; rw [H0.out])
    go_ret
    exact ⟨by rw [HN.out]; rfl, HB0.out⟩
  case true =>
    have H0 := Lib.hid h0
    by_cases h1 : (p.rules.length : Int) ≤ 12
    case neg =>
      have HN := Lib.hid (probD_no1 h1)
      have h1i : (12 : Int) < (p.rules.length : Int) := by omega
      clear h0 h1
      go_wp2_with (go_at_call 46; refine (in_any _ _ _ _).mono ?_; rintro e w' ⟨rfl, hww⟩; rw [hww]; clear hww w'; rw [H0.out])
      go_ret
      exact ⟨by rw [HN.out]; rfl, HB0.out⟩
    case pos =>
      have H1 := Lib.hid h1
      have h1i : ¬ (12 : Int) < (p.rules.length : Int) := by omega
      have h8 : p.doms.length ≤ 8 := by unfold inB at h0; simp at h0; omega
      clear h0
      go_wp2_with (go_at_call 46; refine (in_any _ _ _ _).mono ?_; rintro e w' ⟨rfl, hww⟩; rw [hww]; clear hww w'; rw [H0.out])
      refine abs_wp (fun W => W.heap[w.heap.size]? = some (.cells #[.slice da p.doms.length dc, .slice ra p.rules.length rc] 25 (0, 0)) ∧ Below w.heap.size w W) ⟨HK0.out, HB0.out⟩ ?_
      rintro W ⟨k0, hb⟩
      have K0 := Lib.hid k0; have HB := Lib.hid hb
      have z0 : w.heap.size < W.heap.size := (Array.getElem?_eq_some_iff.1 k0).1
      have c0 : W.cell? ⟨w.heap.size, 0, none⟩ = some (.slice da p.doms.length dc) := by rw [cell_of_row _ _ _ _ _ _ k0]; rfl
      clear k0 hb HB0 HK0
      go_wp2_with fail
      clear c0
      go_loopw [3] (fun iv wr => ∃ k : Nat, k ≤ p.doms.length ∧ iv = .int .i64 k ∧ (∀ j, j < k → nget p.doms j < 65536) ∧ wr = W) (fun iv _ => p.doms.length - (intOf iv).toNat)
      case atStart => exact ⟨0, Nat.zero_le _, rfl, fun j hj => absurd hj (Nat.not_lt_zero _), rfl⟩
      case round =>
        obtain ⟨k, hk, rfl, hall, hwr⟩ := hrel
        subst hwr
        have HALL := Lib.hid hall
        clear hall
        have c0 : wr.cell? ⟨w.heap.size, 0, none⟩ = some (.slice da p.doms.length dc) := by rw [cell_of_row _ _ _ _ _ _ K0.out]; rfl
        by_cases hlt : k < p.doms.length
        · obtain ⟨_, a', c', hae, _, _, hdr⟩ := HDV.out.below HB.out hB
          cases hae
          obtain ⟨b, off, rfl, hbb, hcell⟩ := hdr (by omega)
          have c1 : wr.cell? ⟨b, off + k, none⟩ = some (.int .u64 (nget p.doms k : Nat)) := hcell k (by omega)
          clear hdr hcell
          by_cases hd : nget p.doms k < 65536
          · have HD := Lib.hid hd
            have e0 : ((nget p.doms k : Nat) : Int) / 65536 = 0 := by omega
            clear hd
            go_wp2
            go_roundw
            case rel => exact ⟨k + 1, by omega, by go_num, fun j hj => if h : j = k then h ▸ HD.out else HALL.out j (by omega), by first | rfl | trivial⟩
            case measure => simp [intOf]; omega
          · have HN := Lib.hid (probD_no2 hlt hd)
            have e0 : (((nget p.doms k : Nat) : Int) / 65536 != 0) = true := by rw [bne_iff_ne]; omega
            clear hd
            go_wp2
            go_ret
            exact ⟨by rw [HN.out]; rfl, HB.out⟩
        · have hk2 : k = p.doms.length := by omega
          subst hk2
          have H2 := Lib.hid HALL.out
          go_wp2_with fail
          go_loopw [4] (fun i wr => ∃ k : Nat, k ≤ p.rules.length ∧ i = .int .i64 k ∧ (∀ j, j < k → ruleD (drget p.rules j) p.doms.length = true) ∧ wr.heap[w.heap.size]? = some (.cells #[.slice da p.doms.length dc, .slice ra p.rules.length rc] 25 (0, 0)) ∧ Below w.heap.size w wr) (fun i _ => p.rules.length - (intOf i).toNat)
          case atStart => exact ⟨0, Nat.zero_le _, rfl, fun j hj => absurd hj (Nat.not_lt_zero _), K0.out, HB.out⟩
          case round =>
            obtain ⟨k, hk, rfl, hall, kr, hb⟩ := hrel
            obtain ⟨wo, rfl⟩ : ∃ wo : World, wo = wr := ⟨_, rfl⟩
            have HALL := Lib.hid hall; have KR := Lib.hid kr; have HBR := Lib.hid hb
            have z0 : w.heap.size < wo.heap.size := (Array.getElem?_eq_some_iff.1 kr).1
            have c0 : wo.cell? ⟨w.heap.size, 0, none⟩ = some (.slice da p.doms.length dc) := by rw [cell_of_row _ _ _ _ _ _ kr]; rfl
            have c1 : wo.cell? ⟨w.heap.size, 1, none⟩ = some (.slice ra p.rules.length rc) := by rw [cell_of_row _ _ _ _ _ _ kr]; rfl
            clear hall kr hb
            by_cases hlt : k < p.rules.length
            · obtain ⟨rb, ro, vv, nv, rfl, hrb, hra, q0, q1, q2, q3⟩ := (HRV.out.below HBR.out hB).cells hlt
              have zr : rb < wo.heap.size := by have := HBR.out.size; omega
              have HRA := Lib.hid hra
              have hBs := HBR.out.size
              have HC := Lib.hid (fun (d : Nat) (os : Array Obj) => refRule_any (drget p.rules k) ((p.doms.length : Nat) : Int) _ _ (Go.Sort.grow (redrawn wo d) os) (HRA.out.below (below_regrown wo d os |>.mono (show B ≤ wo.heap.size by omega)) (Nat.le_refl _)) (by have := (below_regrown wo d os).size; omega) (by omega) (by omega))
              unfold ruleV at HC
              obtain ⟨va, vc, rfl⟩ := hra.vars.slice
              obtain ⟨na, nc, rfl⟩ := hra.nums.slice
              clear hra
              cases hr : ruleD (drget p.rules k) p.doms.length <;> rw [hr] at HC
              · have HN := Lib.hid (probD_no3 hlt hr)
                clear hr
                go_wp2_with fail
                refine wp_region_qb (by kernel_rfl) (by kernel_rfl) ?_
                repeat go_big_quiet_step ((with_reducible exact Gives.quiet (HC.out _ _)))
                refine wpQuiet_nil ?_
                intro w5 hb5
                have HB5 := Lib.hid (HBR.out.trans (hb5.mono HBR.out.size))
                clear hb5
                go_wp2
                go_ret
                exact ⟨by rw [HN.out]; rfl, HB5.out⟩
              · have HR := Lib.hid hr
                clear hr
                go_wp2_with fail
                refine wp_region_qb (by kernel_rfl) (by kernel_rfl) ?_
                repeat go_big_quiet_step ((with_reducible exact Gives.quiet (HC.out _ _)))
                refine wpQuiet_nil ?_
                intro w5 hb5
                have HB5 := Lib.hid (HBR.out.trans (hb5.mono HBR.out.size)); have K5 := Lib.hid (heap_later KR.out hb5 z0)
                clear hb5
                go_wp2
                go_roundw
                case rel => exact ⟨k + 1, by omega, by go_num, fun j hj => if h : j = k then h ▸ HR.out else HALL.out j (by omega), K5.out, HB5.out⟩
                case measure => simp [intOf]; omega
            · have hk3 : k = p.rules.length := by omega
              subst hk3
              have HY := Lib.hid (probD_yes H0.out H1.out H2.out HALL.out)
              go_wp2
              go_ret
              exact ⟨by rw [HY.out]; rfl, HBR.out⟩
end Go.Proofs.YtdmmegmkdhinjaaGreatDoor
