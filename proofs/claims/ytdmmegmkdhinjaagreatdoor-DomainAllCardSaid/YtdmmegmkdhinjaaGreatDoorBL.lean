/- The reference of Domain: Least, least, differ. · The reference of Domain: differ. · The reference of Domain: Holds, of. -/
import Derived.Test.YtdmmegmkdhinjaaGreatDoorBK
namespace Go.Proofs.YtdmmegmkdhinjaaGreatDoor
open Go Go.RowKit
attribute [local go_sem] cell_grow u64_sAnd u64_sOr u64_sDiff sDiff_all zeqI zneI sAnd_bit_zero sAnd_bit_zeroN sAnd_bit_nonzero

theorem bitLen_spec : ∀ x : Nat, x < 2 ^ 64 → x ≠ 0 → 0 < Lib.bitLen x ∧ x.testBit (Lib.bitLen x - 1) = true ∧ ∀ m, x.testBit m = true → m ≤ Lib.bitLen x - 1 := by
  intro x
  induction x using Nat.strongRecOn with
  | _ x ih =>
    intro hx h0
    have hh := Lib.bitLen_half x h0 hx
    by_cases h2 : x / 2 = 0
    · have h1 : x = 1 := by omega
      subst h1
      have e : Lib.bitLen 1 = 1 := by decide
      rw [e]
      refine ⟨by decide, by decide, fun m hm => ?_⟩
      cases m with
      | zero => omega
      | succ m => rw [Nat.testBit_succ] at hm; simp at hm
    · obtain ⟨h3, h4, h5⟩ := ih (x / 2) (by omega) (by omega) h2
      rw [hh]
      refine ⟨by omega, ?_, fun m hm => ?_⟩
      · rw [show 1 + Lib.bitLen (x / 2) - 1 = (Lib.bitLen (x / 2) - 1) + 1 by omega, Nat.testBit_succ]; exact h4
      · cases m with
        | zero => omega
        | succ m => rw [Nat.testBit_succ] at hm; have := h5 m hm; omega
theorem bit_lt16 {d m : Nat} (hd : d < 65536) (h : d.testBit m = true) : m < 16 := by
  apply Decidable.byContradiction
  intro hc
  have h6 := Nat.testBit_lt_two_pow (Nat.lt_of_lt_of_le (show d < 2 ^ 16 from hd) (Nat.pow_le_pow_right (by decide) (show 16 ≤ m by omega)))
  rw [h] at h6; cases h6
theorem hi_spec {d : Nat} (hd : d < 65536) (h0 : d ≠ 0) : d.testBit (hiD d) = true ∧ hiD d < 16 ∧ ∀ m, d.testBit m = true → m ≤ hiD d := by
  obtain ⟨h1, h2, h3⟩ := bitLen_spec d (Nat.lt_trans hd (by decide)) h0
  exact ⟨h2, bit_lt16 hd h2, h3⟩
theorem lo_spec {d : Nat} (hd : d < 65536) (h0 : d ≠ 0) : d.testBit (ctzN d) = true ∧ ctzN d < 16 ∧ ∀ m, d.testBit m = true → ctzN d ≤ m := by
  have hu : U64 d := Nat.lt_trans hd (by decide)
  have h := fun i => and_pred_testBit d h0 hu i
  refine ⟨(h 0).2.2, bit_lt16 hd (h 0).2.2, fun m hm => ?_⟩
  apply Decidable.byContradiction
  intro hc
  have := (h m).2.1 (by omega)
  rw [hm] at this; cases this
theorem hasD_bit {d k : Nat} (hk : k < 16) : hasD d (k : Int) = d.testBit k := by
  unfold hasD
  rw [show inB (k : Int) 0 15 = true by unfold inB; simp; omega, Int.toNat_natCast]; rfl
set_option maxHeartbeats 1000000 in
theorem refLeast_any (d : Nat) (hd : d < 65536) (h0 : d ≠ 0) (w : World) :
    Calls Tryz.prog 91 #[.int .u64 (d : Nat)] w fun e w' => e = .returned (.int .i64 (ctzN d : Nat)) ∧ w' = w := by
  obtain ⟨h1, h2, h3⟩ := lo_spec hd h0
  have hu : U64 d := Nat.lt_trans hd (by decide)
  have H3 := Lib.hid h3; have H1 := Lib.hid h1
  clear h1 h3
  go_enter Tryz.func91, Tryz.ntmps91
  go_wp2
  go_loop [3] (fun i => ∃ k : Nat, k ≤ ctzN d ∧ i = .int .i64 k) (fun i => 16 - (intOf i).toNat)
  case atStart => exact ⟨0, Nat.zero_le _, rfl⟩
  case round =>
    obtain ⟨k, hk, rfl⟩ := hrel
    cases hb : d.testBit k
    · have hh : hasD d (k : Int) = false := by rw [hasD_bit (by omega), hb]
      have hne : k ≠ ctzN d := fun e => by rw [e, H1.out] at hb; cases hb
      have HH := Lib.hid hh
      clear hb hh
      go_wp2_with (go_at_call 61; refine (refHas_any _ _ _ hu).mono ?_; rintro e w' ⟨rfl, rfl⟩; rw [HH.out])
      go_round
      case rel => exact ⟨k + 1, by omega, by go_num⟩
      case measure => simp [intOf]; omega
    · have hh : hasD d (k : Int) = true := by rw [hasD_bit (by omega), hb]
      have he : k = ctzN d := Nat.le_antisymm hk (H3.out k hb)
      have HH := Lib.hid hh; have HE := Lib.hid he
      clear hb hh he
      go_wp2_with (go_at_call 61; refine (refHas_any _ _ _ hu).mono ?_; rintro e w' ⟨rfl, rfl⟩; rw [HH.out])
      go_ret
      exact ⟨by rw [HE.out]; rfl, rfl⟩
/-- The least that a number times a value can be. -/
def leastN (d : Nat) (num : Int) : Int := num * (if num < 0 then (hiD d : Int) else (ctzN d : Int))
theorem least_end {d : Nat} (hd : d < 65536) (h0 : d ≠ 0) {num out : Int} {m : Nat} (hm : d.testBit m = true) (ho : out = num * m) (h1 : ∀ v : Nat, v < 16 → d.testBit v = true → out ≤ num * v) : out = leastN d num := by
  obtain ⟨a1, a2, a3⟩ := hi_spec hd h0
  obtain ⟨b1, b2, b3⟩ := lo_spec hd h0
  have c1 := h1 _ a2 a1
  have c2 := h1 _ b2 b1
  have c3 := a3 m hm
  have c4 := b3 m hm
  unfold leastN
  split
  · rename_i hn
    have h5 : num * (hiD d : Int) ≤ num * (m : Int) := Int.mul_le_mul_of_nonpos_left (by omega) (by omega)
    omega
  · rename_i hn
    have h5 : num * (ctzN d : Int) ≤ num * (m : Int) := Int.mul_le_mul_of_nonneg_left (by omega) (by omega)
    omega
set_option maxHeartbeats 2000000 in
theorem least_any (d : Nat) (hd : d < 65536) (h0 : d ≠ 0) (num : Int) (hn : -20 ≤ num ∧ num ≤ 20) (w : World) :
    Calls Tryz.prog 133 #[.int .u64 (d : Nat), .int .i64 num] w fun e w' => e = .returned (.int .i64 (leastN d num)) ∧ w' = w := by
  obtain ⟨h1, h2, h3⟩ := lo_spec hd h0
  have hu : U64 d := Nat.lt_trans hd (by decide)
  have HE := Lib.hid (fun (out : Int) (m : Nat) => least_end hd h0 (num := num) (out := out) (m := m))
  have H1 := Lib.hid h1
  have hlt := term_lim hn (v := ((ctzN d : Nat) : Int)) (by omega)
  clear h1 h3
  go_enter Tryz.func133, Tryz.ntmps133
  go_wp2_with (go_at_call 91; refine (refLeast_any d hd h0 _).mono ?_; rintro e w' ⟨rfl, rfl⟩)
  go_loop [5, 6] (fun ov iv => ∃ (k m : Nat) (out : Int), k ≤ 16 ∧ iv = .int .i64 k ∧ ov = .int .i64 out ∧ d.testBit m = true ∧ m < 16 ∧ out = num * m ∧ ∀ v : Nat, v < k → d.testBit v = true → out ≤ num * v) (fun _ iv => 16 - (intOf iv).toNat)
  case atStart => exact ⟨0, ctzN d, _, Nat.zero_le _, rfl, rfl, H1.out, h2, rfl, fun v hv => absurd hv (Nat.not_lt_zero _)⟩
  case round =>
    obtain ⟨k, m, out, hk, rfl, rfl, hm, hm16, ho, hall⟩ := hrel
    have hol := term_lim hn (v := (m : Int)) (by omega)
    rw [← ho] at hol
    have HM := Lib.hid hm; have HO := Lib.hid ho; have HALL := Lib.hid hall
    clear hm ho hall
    by_cases hlt2 : k < 16
    · cases hb : d.testBit k
      · have hh : hasD d (k : Int) = false := by rw [hasD_bit (by omega), hb]
        have HH := Lib.hid hh; have HB := Lib.hid hb
        clear hb hh
        go_wp2_with (go_at_call 61; refine (refHas_any _ _ _ hu).mono ?_; rintro e w' ⟨rfl, rfl⟩; rw [HH.out])
        go_round
        case rel => exact ⟨k + 1, m, out, by omega, by go_num, rfl, HM.out, hm16, HO.out, fun v hv hb2 => if h : v = k then by subst h; rw [HB.out] at hb2; cases hb2 else HALL.out v (by omega) hb2⟩
        case measure => simp [intOf]; omega
      · have hh : hasD d (k : Int) = true := by rw [hasD_bit (by omega), hb]
        have hkl := term_lim hn (v := (k : Int)) (by omega)
        have HH := Lib.hid hh; have HB := Lib.hid hb
        clear hb hh
        go_wp2_with (go_at_call 61; refine (refHas_any _ _ _ hu).mono ?_; rintro e w' ⟨rfl, rfl⟩; rw [HH.out])
        go_round
        case rel =>
          by_cases hle : out ≤ num * (k : Int)
          · exact ⟨k + 1, m, out, by omega, by go_num, by go_num, HM.out, hm16, HO.out, fun v hv hb2 => if h : v = k then by subst h; exact hle else HALL.out v (by omega) hb2⟩
          · exact ⟨k + 1, k, num * (k : Int), by omega, by go_num, by go_num, HB.out, by omega, rfl, fun v hv hb2 => if h : v = k then by subst h; exact Int.le_refl _ else by have := HALL.out v (by omega) hb2; omega⟩
        case measure => simp [intOf]; omega
    · have hk2 : k = 16 := by omega
      subst hk2
      have HF := Lib.hid (HE.out out m HM.out HO.out HALL.out)
      go_wp2
      go_ret
      exact ⟨by rw [← HF.out]; rfl, rfl⟩
theorem diff_true {d t v : Nat} {ds : List Nat} (hv : v < 16) (hb : (sDiff d t).testBit v = true) (h : diffD ds (sOr t (bitN v)) = true) : diffD (d :: ds) t = true := by
  unfold diffD
  exact List.any_eq_true.2 ⟨v, mem_elems.2 ⟨by omega, hb⟩, h⟩
theorem diff_false {d t : Nat} {ds : List Nat} (hd : d < 65536) (h : ∀ v, v < 16 → (sDiff d t).testBit v = true → diffD ds (sOr t (bitN v)) = false) : diffD (d :: ds) t = false := by
  unfold diffD
  rw [Bool.eq_false_iff]
  intro hc
  obtain ⟨v, hv, h2⟩ := List.any_eq_true.1 hc
  have h3 := (mem_elems.1 hv).2
  have h4 : v < 16 := bit_lt16 (sDiff_lt hd) h3
  rw [h v h4 h3] at h2; cases h2
theorem us_tail {w : World} {B : Nat} {b off n c : Nat} {d : Nat} {ds : List Nat} (h : Us w B (.slice (some ⟨b, off, none⟩) n c) (d :: ds)) (a : Option Addr) (ha : 0 < ds.length → a = some ⟨b, off + 1, none⟩) : Us w B (.slice a ds.length (c - 1)) ds := by
  obtain ⟨hn, a', cap, hv, h1, h2, h3⟩ := h
  cases hv
  simp only [List.length_cons] at hn h1 h3
  refine ⟨by omega, _, _, rfl, by omega, by unfold maxLen at h2 ⊢; omega, fun h0 => ?_⟩
  obtain ⟨b', o, hae, hb, hcell⟩ := h3 (by omega)
  cases hae
  refine ⟨_, _, ha (by omega), hb, fun i hi => ?_⟩
  rw [Nat.add_assoc, Nat.add_comm 1 i, hcell (i + 1) (by omega)]
  simp [nget]
end Go.Proofs.YtdmmegmkdhinjaaGreatDoor

namespace Go.Proofs.YtdmmegmkdhinjaaGreatDoor
open Go Go.RowKit
attribute [local go_sem] cell_grow u64_sAnd u64_sOr u64_sDiff sDiff_all zeqI zneI sAnd_bit_zero sAnd_bit_zeroN sAnd_bit_nonzero

set_option maxRecDepth 100000 in
set_option maxHeartbeats 4000000 in
theorem differ_any : ∀ (ds : List Nat) (t : Nat) (v : Value) (w : World) {B : Nat}, Us w B v ds → B ≤ w.heap.size → (∀ i, i < ds.length → nget ds i < 65536) → t < 65536 →
    Gives Tryz.prog 134 #[v, .int .u64 (t : Nat)] w (.bool (diffD ds t)) := by
  intro ds
  induction ds with
  | nil =>
    intro t v w B hd hB hds ht
    unfold Gives
    obtain ⟨a, c, rfl⟩ := hd.slice
    go_enter Tryz.func134, Tryz.ntmps134
    go_wp2
    go_ret
    exact ⟨rfl, Below.refl _ _⟩
  | cons d ds ih =>
    intro t v w B hd hB hds ht
    unfold Gives
    have HD := Lib.hid hd; have HIH := Lib.hid ih; have HDS := Lib.hid hds
    obtain ⟨hn, a, c, rfl, hc1, hc2, hr⟩ := hd
    obtain ⟨b, off, rfl, hb, hcell⟩ := hr (by simp)
    have hd16 : d < 65536 := hds 0 (by simp)
    have e0 : w.cell? ⟨b, off, none⟩ = some (.int .u64 (d : Nat)) := by have := hcell 0 (by simp); simpa [nget] using this
    have hlen : (d :: ds).length = ds.length + 1 := rfl
    have E0 := Lib.hid e0
    have hm16 : sDiff d t < 65536 := sDiff_lt hd16
    have hmu : U64 (sDiff d t) := Nat.lt_trans hm16 (by decide)
    have hdu : U64 d := Nat.lt_trans hd16 (by decide)
    have htu : U64 t := Nat.lt_trans ht (by decide)
    have hne : ((ds.length : Int) + 1 == 0) = false := by rw [beq_eq_false_iff_ne]; omega
    rw [hlen] at hn hc1 ⊢
    clear hr hcell ih hds e0
    go_enter Tryz.func134, Tryz.ntmps134
    go_wp2_with fail
    go_loopw [5] (fun iv wr => ∃ k : Nat, k ≤ 16 ∧ iv = .int .i64 k ∧ (∀ v, v < k → (sDiff d t).testBit v = true → diffD ds (sOr t (bitN v)) = false) ∧ Below w.heap.size w wr) (fun iv _ => 16 - (intOf iv).toNat)
    case atStart => exact ⟨0, Nat.zero_le _, rfl, fun v hv => absurd hv (Nat.not_lt_zero _), Below.refl _ _⟩
    case round =>
      obtain ⟨k, hk, rfl, hall, hbw⟩ := hrel
      obtain ⟨wo, rfl⟩ : ∃ wo : World, wo = wr := ⟨_, rfl⟩
      have hsz := hbw.size
      have HALL := Lib.hid hall; have HBW := Lib.hid hbw
      have c0 : wo.cell? ⟨b, off, none⟩ = some (.int .u64 (d : Nat)) := (hbw.cell (p := ⟨b, off, none⟩) (by show b < w.heap.size; omega)).trans E0.out
      have zb : b < wo.heap.size := by omega
      clear hall hbw
      by_cases hlt : k < 16
      · have hk64 : k < 64 := by omega
        have hbu : U64 (bitN k) := U64.bit hk64
        have HH := Lib.hid (fun (dd : Nat) (os : Array Obj) => Gives.of_same (refHas_any (sDiff d t) (k : Int) (Go.Sort.grow (redrawn wo dd) os) hmu))
        have HO := Lib.hid (fun (dd : Nat) (os : Array Obj) => Gives.of_same (refOne_any k (Go.Sort.grow (redrawn wo dd) os) hk64))
        rw [hasD_bit hlt] at HH
        have hor : sOr t (bitN k) < 65536 := Nat.or_lt_two_pow (n := 16) ht (Nat.pow_lt_pow_right (by decide) hlt)
        cases hb2 : (sDiff d t).testBit k <;> rw [hb2] at HH
        · have HB2 := Lib.hid hb2
          clear hb2
          go_wp2_with fail
          refine wp_region_qb (by kernel_rfl) (by kernel_rfl) ?_
          repeat go_big_quiet_step ((first | (with_reducible exact Gives.quiet (HH.out _ _)) | (with_reducible exact Gives.quiet (HO.out _ _))))
          refine wpQuiet_nil ?_
          intro w5 hb5
          have HB5 := Lib.hid (HBW.out.trans (hb5.mono hsz))
          clear hb5
          go_wp2
          go_roundw
          case rel => exact ⟨k + 1, by omega, by go_num, fun v hv hbv => if h : v = k then by subst h; rw [HB2.out] at hbv; cases hbv else HALL.out v (by omega) hbv, HB5.out⟩
          case measure => simp [intOf]; omega
        · have HB2 := Lib.hid hb2
          clear hb2
          by_cases hc0 : c = 1
          · have hds0 : ds = [] := by cases ds with
              | nil => rfl
              | cons _ _ => simp at hc1; omega
            have HT := Lib.hid (fun (a : Option Addr) (dd : Nat) (os : Array Obj) => HIH.out (sOr t (bitN k)) (.slice a ds.length (c - 1)) (Go.Sort.grow (redrawn wo dd) os) (B := w.heap.size) ((us_tail (HD.out.mono hB) a (fun h => by rw [hds0] at h; simp at h)).below (HBW.out.trans ((below_regrown wo dd os).mono hsz)) (Nat.le_refl _)) (by have := (below_regrown wo dd os).size; omega) (fun i hi => by have := HDS.out (i + 1) (by simp; omega); simpa [nget] using this) hor)
            subst hds0
            subst hc0
            have HF : Hid (diffD [d] t = true) := Lib.hid (diff_true hlt HB2.out rfl)
            go_wp2_with fail
            refine wp_region_qb (by kernel_rfl) (by kernel_rfl) ?_
            repeat go_big_quiet_step ((first | (with_reducible exact Gives.quiet (HH.out _ _)) | (with_reducible exact Gives.quiet (HO.out _ _)) | (with_reducible exact Gives.quiet (HT.out _ _ _))))
            refine wpQuiet_nil ?_
            intro w5 hb5
            have HB5 := Lib.hid (HBW.out.trans (hb5.mono hsz))
            clear hb5
            go_wp2
            go_ret
            exact ⟨by rw [HF.out]; rfl, HB5.out⟩
          · have HT := Lib.hid (fun (dd : Nat) (os : Array Obj) => HIH.out (sOr t (bitN k)) (.slice (some ⟨b, off + 1, none⟩) ds.length (c - 1)) (Go.Sort.grow (redrawn wo dd) os) (B := w.heap.size) ((us_tail (HD.out.mono hB) _ (fun _ => rfl)).below (HBW.out.trans ((below_regrown wo dd os).mono hsz)) (Nat.le_refl _)) (by have := (below_regrown wo dd os).size; omega) (fun i hi => by have := HDS.out (i + 1) (by simp; omega); simpa [nget] using this) hor)
            cases hd2 : diffD ds (sOr t (bitN k)) <;> rw [hd2] at HT
            · have HD2 := Lib.hid hd2
              clear hd2
              go_wp2_with fail
              refine wp_region_qb (by kernel_rfl) (by kernel_rfl) ?_
              repeat go_big_quiet_step ((first | (with_reducible exact Gives.quiet (HH.out _ _)) | (with_reducible exact Gives.quiet (HO.out _ _)) | (with_reducible exact Gives.quiet (HT.out _ _))))
              refine wpQuiet_nil ?_
              intro w5 hb5
              have HB5 := Lib.hid (HBW.out.trans (hb5.mono hsz))
              clear hb5
              go_wp2
              go_roundw
              case rel => exact ⟨k + 1, by omega, by go_num, fun v hv hbv => if h : v = k then by subst h; exact HD2.out else HALL.out v (by omega) hbv, HB5.out⟩
              case measure => simp [intOf]; omega
            · have HF := Lib.hid (diff_true (ds := ds) hlt HB2.out hd2)
              clear hd2
              go_wp2_with fail
              refine wp_region_qb (by kernel_rfl) (by kernel_rfl) ?_
              repeat go_big_quiet_step ((first | (with_reducible exact Gives.quiet (HH.out _ _)) | (with_reducible exact Gives.quiet (HO.out _ _)) | (with_reducible exact Gives.quiet (HT.out _ _))))
              refine wpQuiet_nil ?_
              intro w5 hb5
              have HB5 := Lib.hid (HBW.out.trans (hb5.mono hsz))
              clear hb5
              go_wp2
              go_ret
              exact ⟨by rw [HF.out]; rfl, HB5.out⟩
      · have hk2 : k = 16 := by omega
        subst hk2
        have HF := Lib.hid (diff_false hd16 HALL.out)
        go_wp2
        go_ret
        exact ⟨by rw [HF.out]; rfl, HBW.out⟩
end Go.Proofs.YtdmmegmkdhinjaaGreatDoor

namespace Go.Proofs.YtdmmegmkdhinjaaGreatDoor
open Go Go.RowKit
attribute [local go_sem] cell_grow u64_sAnd u64_sOr u64_sDiff sDiff_all zeqI zneI sAnd_bit_zero sAnd_bit_zeroN sAnd_bit_nonzero

def dotD : List Int → List Int → Int
  | n :: ns, v :: vs => n * v + dotD ns vs
  | _, _ => 0
theorem dotD_take {ns vs : List Int} : ∀ {k : Nat}, k < ns.length → k < vs.length → dotD (ns.take (k + 1)) (vs.take (k + 1)) = dotD (ns.take k) (vs.take k) + iget ns k * iget vs k := by
  induction ns generalizing vs with
  | nil => intro k h; simp at h
  | cons n ns ih =>
    intro k h1 h2
    cases vs with
    | nil => simp at h2
    | cons v vs =>
      cases k with
      | zero =>
        show n * v + 0 = 0 + n * v
        omega
      | succ k =>
        have := ih (vs := vs) (k := k) (by simpa using h1) (by simpa using h2)
        show n * v + dotD (ns.take (k + 1)) (vs.take (k + 1)) = n * v + dotD (ns.take k) (vs.take k) + iget ns k * iget vs k
        rw [this]; omega
theorem dotD_full {ns vs : List Int} (h : vs.length ≤ ns.length) : dotD (ns.take vs.length) vs = dotD ns vs := by
  induction ns generalizing vs with
  | nil => simp
  | cons n ns ih =>
    cases vs with
    | nil => rfl
    | cons v vs =>
      show n * v + dotD (ns.take vs.length) vs = n * v + dotD ns vs
      rw [ih (by simpa using h)]
/-- Whether a rule holds for values, in order. -/
def holdsD (r : Dr) (l : List Int) : Bool :=
  if r.kind = 1 then decide (dotD r.nums l ≤ r.n)
  else if r.kind = 2 then distinctD l
  else if r.kind = 3 then decide (iget l 0 < r.nums.length) && (iget r.nums (iget l 0).toNat == iget l 1)
  else iget l 0 == iget l 1 + r.n
/-- What the values must be for the arithmetic to be safe. -/
structure HFit (r : Dr) (l : List Int) : Prop where
  len : l.length ≤ 1000
  sum : r.kind = 1 → l.length ≤ r.nums.length ∧ (∀ i, i < l.length → -20 ≤ iget r.nums i ∧ iget r.nums i ≤ 20)
  two : r.kind ≠ 1 → r.kind ≠ 2 → 2 ≤ l.length
  val : ∀ i, i < l.length → 0 ≤ iget l i ∧ iget l i ≤ 15
  n : -1000 ≤ r.n ∧ r.n ≤ 1000
set_option maxRecDepth 100000 in
set_option maxHeartbeats 4000000 in
theorem refHolds_any (r : Dr) (l : List Int) (hf : HFit r l) (vv nv lv : Value) (w : World) {B : Nat} (hr : RuleAt w B r vv nv) (hl : Ints w B lv l) (hB : B ≤ w.heap.size) :
    Gives Tryz.prog 64 #[ruleV r vv nv, lv] w (.bool (holdsD r l)) := by
  unfold Gives ruleV
  have HR := Lib.hid hr; have HL := Lib.hid hl; have HF := Lib.hid hf
  obtain ⟨va, vc, rfl⟩ := hr.vars.slice
  obtain ⟨na, nc, rfl⟩ := hr.nums.slice
  obtain ⟨la, lc, rfl⟩ := hl.slice
  have hnl := hr.nums.1
  have hll := hf.len
  have hrn := hf.n
  clear hr hl hf
  go_enter Tryz.func64, Tryz.ntmps64
  go_upto_region 1 with fail
  refine abs_wp (fun W => W.heap[w.heap.size]? = some (.cells #[.int .i64 r.kind, .slice va r.vars.length vc, .slice na r.nums.length nc, .int .i64 r.n] 69 (0, 0)) ∧ Below w.heap.size w W) ⟨heap_new0 _ _, Below.new1 _ _⟩ ?_
  rintro W ⟨k0, hb⟩
  have z0 : w.heap.size < W.heap.size := (Array.getElem?_eq_some_iff.1 k0).1
  have c0 : W.cell? ⟨w.heap.size, 0, none⟩ = some (.int .i64 r.kind) := by rw [cell_of_row _ _ _ _ _ _ k0]; rfl
  have c2 : W.cell? ⟨w.heap.size, 2, none⟩ = some (.slice na r.nums.length nc) := by rw [cell_of_row _ _ _ _ _ _ k0]; rfl
  have c3 : W.cell? ⟨w.heap.size, 3, none⟩ = some (.int .i64 r.n) := by rw [cell_of_row _ _ _ _ _ _ k0]; rfl
  have HB := Lib.hid hb; have K0 := Lib.hid k0
  have hcell : ∀ (Y : World), Below w.heap.size w Y → ∀ i, i < l.length → ∃ b off, la = some ⟨b, off, none⟩ ∧ b < Y.heap.size ∧ ∀ j, j < l.length → Y.cell? ⟨b, off + j, none⟩ = some (.int .i64 (iget l j)) := fun Y hY i hi => by
    obtain ⟨_, a', c', hae, _, _, hir⟩ := HL.out.below hY hB
    cases hae
    obtain ⟨b, off, rfl, hb, hc⟩ := hir (by omega)
    exact ⟨b, off, rfl, by have := hY.size; omega, fun j hj => hc j (by omega)⟩
  have hnum : ∀ (Y : World), Below w.heap.size w Y → 0 < r.nums.length → ∃ b off, na = some ⟨b, off, none⟩ ∧ b < Y.heap.size ∧ ∀ j, j < r.nums.length → Y.cell? ⟨b, off + j, none⟩ = some (.int .i64 (iget r.nums j)) := fun Y hY h0 => by
    obtain ⟨_, a', c', hae, _, _, hir⟩ := HR.out.nums.below hY hB
    cases hae
    obtain ⟨b, off, rfl, hb, hc⟩ := hir (by omega)
    exact ⟨b, off, rfl, by have := hY.size; omega, fun j hj => hc j (by omega)⟩
  have HCELL := Lib.hid hcell; have HNUM := Lib.hid hnum
  clear k0 hb hcell hnum
  by_cases k1 : r.kind = 1
  · have hs := HF.out.sum k1
    have HD : Hid (holdsD r l = decide (dotD r.nums l ≤ r.n)) := Lib.hid (by unfold holdsD; rw [if_pos k1])
    rw [k1] at c0
    have HS := Lib.hid hs.2
    have hs1 := hs.1
    clear hs c3
    go_wp2_with fail
    go_loopw [5, 6] (fun sv iv wr => ∃ (k : Nat) (s : Int), k ≤ l.length ∧ iv = .int .i64 k ∧ sv = .int .i64 s ∧ s = dotD (r.nums.take k) (l.take k) ∧ -300 * (k : Int) ≤ s ∧ s ≤ 300 * (k : Int) ∧ wr.heap[w.heap.size]? = some (.cells #[.int .i64 r.kind, .slice va r.vars.length vc, .slice na r.nums.length nc, .int .i64 r.n] 69 (0, 0)) ∧ Below w.heap.size w wr) (fun _ iv _ => l.length - (intOf iv).toNat)
    case atStart => exact ⟨0, 0, Nat.zero_le _, rfl, rfl, by simp [dotD], by omega, by omega, K0.out, HB.out⟩
    case round =>
      obtain ⟨k, s, hk, rfl, rfl, hsd, hs1', hs2, kr, hb⟩ := hrel
      obtain ⟨wo, rfl⟩ : ∃ wo : World, wo = wr := ⟨_, rfl⟩
      have zr : w.heap.size < wo.heap.size := (Array.getElem?_eq_some_iff.1 kr).1
      have c2 : wo.cell? ⟨w.heap.size, 2, none⟩ = some (.slice na r.nums.length nc) := by rw [cell_of_row _ _ _ _ _ _ kr]; rfl
      have c3 : wo.cell? ⟨w.heap.size, 3, none⟩ = some (.int .i64 r.n) := by rw [cell_of_row _ _ _ _ _ _ kr]; rfl
      have HSD := Lib.hid hsd; have KR := Lib.hid kr; have HBR := Lib.hid hb
      clear hsd kr hb K0 HB c0
      by_cases hlt : k < l.length
      · obtain ⟨b, off, rfl, zb, hcl⟩ := HCELL.out wo HBR.out k hlt
        obtain ⟨b2, off2, rfl, zb2, hcn⟩ := HNUM.out wo HBR.out (by omega)
        have e0 := hcl k hlt
        have e1 := hcn k (by omega)
        have hnk := HS.out k hlt
        have hvk := HF.out.val k hlt
        have htl := term_lim hnk hvk
        have HT := Lib.hid (dotD_take (ns := r.nums) (vs := l) (k := k) (by omega) hlt)
        clear hcl hcn
        obtain ⟨x, hx⟩ : ∃ x, x = iget l k := ⟨_, rfl⟩
        obtain ⟨y, hy⟩ : ∃ y, y = iget r.nums k := ⟨_, rfl⟩
        rw [← hx] at e0 htl HT
        rw [← hy] at e1 htl HT
        obtain ⟨pr, hpr⟩ : ∃ pr, pr = y * x := ⟨_, rfl⟩
        rw [← hpr] at htl HT
        have hkI : (k : Int) ≤ 1000 := by omega
        have hwr : IntKind.i64.wrap (y * x) = pr := by rw [← hpr, IntKind.wrap_i64]; omega
        have hwr2 : IntKind.i64.wrap (s + pr) = s + pr := by rw [IntKind.wrap_i64]; omega
        clear hnk hvk hx hy
        go_wp2_with fail
        refine wp_region_qb (by kernel_rfl) (by kernel_rfl) ?_
        repeat go_big_quiet_step (fail)
        refine wpQuiet_nil ?_
        intro w2 hb2
        have HB2 := Lib.hid (HBR.out.trans (hb2.mono HBR.out.size)); have K2 := Lib.hid (heap_later KR.out hb2 zr)
        clear hb2
        go_wp2
        go_roundw
        case rel => exact ⟨k + 1, s + pr, by omega, by go_num, by first | rfl | (rw [hpr]) | (rw [hwr, hwr2]), by rw [HT.out, ← HSD.out], by omega, by omega, K2.out, HB2.out⟩
        case measure => simp [intOf]; omega
      · have hk2 : k = l.length := by omega
        subst hk2
        have HE : Hid (dotD r.nums l = s) := Lib.hid (by rw [HSD.out, List.take_length, dotD_full hs1])
        go_wp2
        go_ret
        exact ⟨by rw [HD.out, HE.out]; rfl, HBR.out⟩
  have e1 : (r.kind == 1) = false := by rw [beq_eq_false_iff_ne]; exact k1
  by_cases k2 : r.kind = 2
  · have HD : Hid (holdsD r l = distinctD l) := Lib.hid (by unfold holdsD; rw [if_neg k1, if_pos k2])
    rw [k2] at c0 e1
    clear c2 c3
    go_wp2_with fail
    go_loopw [7, 8] (fun iv kv wr => ∃ i : Nat, i ≤ l.length ∧ iv = .int .i64 i ∧ (∀ a, a < i → ∀ b, b < a → iget l a ≠ iget l b) ∧ Below w.heap.size w wr) (fun iv _ _ => l.length - (intOf iv).toNat)
    case atStart => exact ⟨0, Nat.zero_le _, rfl, fun a ha => absurd ha (Nat.not_lt_zero _), HB.out⟩
    case round =>
      obtain ⟨i, hi, rfl, hall, hb⟩ := hrel
      obtain ⟨wo, rfl⟩ : ∃ wo : World, wo = wr := ⟨_, rfl⟩
      have HALL := Lib.hid hall; have HBO := Lib.hid hb
      clear hall hb K0 HB c0 z0
      by_cases hlt : i < l.length
      · go_wp2_with fail
        go_loopw [8] (fun kv wr => ∃ k : Nat, k ≤ i ∧ kv = .int .i64 k ∧ (∀ b, b < k → iget l i ≠ iget l b) ∧ Below w.heap.size w wr) (fun kv _ => i - (intOf kv).toNat)
        case atStart => exact ⟨0, Nat.zero_le _, rfl, fun a ha => absurd ha (Nat.not_lt_zero _), HBO.out⟩
        case round =>
          obtain ⟨k, hk, rfl, hak, hb⟩ := hrel
          clear HBO
          have HAK := Lib.hid hak; have HB1 := Lib.hid hb
          by_cases hki : k < i
          · obtain ⟨b, off, rfl, zb, hcl⟩ := HCELL.out wr hb i hlt
            have e2 := hcl i hlt
            have e3 := hcl k (by omega)
            clear hak hb hcl
            by_cases heq : iget l i = iget l k
            · have HN : Hid (holdsD r l = false) := Lib.hid (by rw [HD.out, distinct_no hlt hki heq])
              have f1 : (iget l i == iget l k) = true := by rw [heq]; simp
              clear heq
              go_wp2_with fail
              refine wp_region_qb (by kernel_rfl) (by kernel_rfl) ?_
              repeat go_big_quiet_step (fail)
              refine wpQuiet_nil ?_
              intro w2 hb2
              have HB2 := Lib.hid (HB1.out.trans (hb2.mono HB1.out.size))
              clear hb2
              go_wp2
              go_ret
              exact ⟨by rw [HN.out]; rfl, HB2.out⟩
            · have f1 : (iget l i == iget l k) = false := by rw [beq_eq_false_iff_ne]; exact heq
              have HNE := Lib.hid heq
              clear heq
              go_wp2_with fail
              refine wp_region_qb (by kernel_rfl) (by kernel_rfl) ?_
              repeat go_big_quiet_step (fail)
              refine wpQuiet_nil ?_
              intro w2 hb2
              have HB2 := Lib.hid (HB1.out.trans (hb2.mono HB1.out.size))
              clear hb2
              go_wp2
              go_roundw
              case rel => exact ⟨k + 1, by omega, by go_num, fun b hb => if h : b = k then h ▸ HNE.out else HAK.out b (by omega), HB2.out⟩
              case measure => simp [intOf]; omega
          · have hk2 : k = i := by omega
            subst hk2
            clear hak hb
            go_wp2
            go_roundw
            case rel => exact ⟨k + 1, by omega, by go_num, fun a ha => if h : a = k then h ▸ HAK.out else HALL.out a (by omega), HB1.out⟩
            case measure => simp [intOf]; omega
      · have hi2 : i = l.length := by omega
        subst hi2
        have HY := Lib.hid (distinct_yes HALL.out)
        go_wp2
        go_ret
        exact ⟨by rw [HD.out, HY.out]; rfl, HBO.out⟩
  have e2 : (r.kind == 2) = false := by rw [beq_eq_false_iff_ne]; exact k2
  have h2 := HF.out.two k1 k2
  obtain ⟨b, off, rfl, zb, hcl⟩ := HCELL.out W HB.out 0 (by omega)
  have d0 := hcl 0 (by omega)
  have d1 := hcl 1 (by omega)
  have hv0 := HF.out.val 0 (by omega)
  have hv1 := HF.out.val 1 (by omega)
  obtain ⟨x, hx⟩ : ∃ x : Nat, iget l 0 = x := ⟨(iget l 0).toNat, by omega⟩
  obtain ⟨y, hy⟩ : ∃ y : Nat, iget l 1 = y := ⟨(iget l 1).toNat, by omega⟩
  rw [hx] at d0 hv0
  rw [hy] at d1 hv1
  have h2I : (2 : Int) ≤ ((l.length : Nat) : Int) := by omega
  have h1I : (1 : Int) < ((l.length : Nat) : Int) := by omega
  have h0I : (0 : Int) < ((l.length : Nat) : Int) := by omega
  have hoff : off + 0 = off := rfl
  rw [hoff] at d0
  clear hcl hoff
  by_cases k3 : r.kind = 3
  · have HD : Hid (holdsD r l = (decide ((x : Int) < r.nums.length) && (iget r.nums x == (y : Int)))) := Lib.hid (by unfold holdsD; rw [if_neg k1, if_neg k2, if_pos k3, hx, hy, Int.toNat_natCast])
    rw [k3] at c0 e1 e2
    by_cases hlt : x < r.nums.length
    · obtain ⟨b2, off2, rfl, zb2, hcn⟩ := HNUM.out W HB.out (by omega)
      have d2 := hcn x hlt
      have hltI : (x : Int) < ((r.nums.length : Nat) : Int) := by omega
      have HE : Hid (holdsD r l = (iget r.nums x == (y : Int))) := Lib.hid (by rw [HD.out, decide_eq_true hltI]; rfl)
      clear hcn c3
      go_wp2_with fail
      refine wp_region_qb (by kernel_rfl) (by kernel_rfl) ?_
      repeat go_big_quiet_step (fail)
      refine wpQuiet_nil ?_
      intro w2 hb2
      have HB2 := Lib.hid (HB.out.trans (hb2.mono HB.out.size))
      clear hb2
      go_wp2
      go_ret
      exact ⟨by rw [HE.out]; rfl, HB2.out⟩
    · have hltI : ¬ (x : Int) < ((r.nums.length : Nat) : Int) := by omega
      have HE : Hid (holdsD r l = false) := Lib.hid (by rw [HD.out, decide_eq_false hltI]; rfl)
      clear c3
      go_wp2_with fail
      refine wp_region_qb (by kernel_rfl) (by kernel_rfl) ?_
      repeat go_big_quiet_step (fail)
      refine wpQuiet_nil ?_
      intro w2 hb2
      have HB2 := Lib.hid (HB.out.trans (hb2.mono HB.out.size))
      clear hb2
      go_wp2
      go_ret
      exact ⟨by rw [HE.out]; rfl, HB2.out⟩
  · have e3 : (r.kind == 3) = false := by rw [beq_eq_false_iff_ne]; exact k3
    have HD : Hid (holdsD r l = ((x : Int) == (y : Int) + r.n)) := Lib.hid (by unfold holdsD; rw [if_neg k1, if_neg k2, if_neg k3, hx, hy])
    have hwr : IntKind.i64.wrap ((y : Int) + r.n) = (y : Int) + r.n := by rw [IntKind.wrap_i64]; omega
    clear c2 k1 k2 k3
    go_wp2_with fail
    refine wp_region_qb (by kernel_rfl) (by kernel_rfl) ?_
    repeat go_big_quiet_step (fail)
    refine wpQuiet_nil ?_
    intro w2 hb2
    have HB2 := Lib.hid (HB.out.trans (hb2.mono HB.out.size))
    clear hb2
    go_wp2
    go_ret
    exact ⟨by rw [HD.out]; rfl, HB2.out⟩
/-- The domains of a rule's variables. -/
theorem ofD_takeL (f : List Nat) (vars : List Int) {k : Nat} (h : k < vars.length) : ofD f (vars.take (k + 1)) = ofD f (vars.take k) ++ [nget f (iget vars k).toNat] := ofD_take f vars h
set_option maxRecDepth 100000 in
set_option maxHeartbeats 1000000 in
theorem refOf_any (r : Dr) (f : List Nat) (hv : ∀ i, i < r.vars.length → 0 ≤ iget r.vars i ∧ iget r.vars i < f.length) (h4 : r.vars.length ≤ 1000) (vv nv fv : Value) (w : World) {B : Nat} (hr : RuleAt w B r vv nv) (hf : Us w B fv f) (hB : B ≤ w.heap.size) :
    Calls Tryz.prog 111 #[ruleV r vv nv, fv] w fun e w' => ∃ v, e = .returned v ∧ w'.ownsRow w.heap.size 56 1 v r.vars.length (natsV (ofD f r.vars)) ∧ Below w.heap.size w w' := by
  obtain ⟨va, vc, rfl⟩ := hr.vars.slice
  obtain ⟨na, nc, rfl⟩ := hr.nums.slice
  obtain ⟨fa, fc, rfl⟩ := hf.slice
  have hfl := hf.1
  unfold ruleV
  obtain ⟨i0, hin, hz0, hz1, hz2⟩ := info_parts infoU
  have HR := Lib.hid hr; have HF := Lib.hid hf; have HV := Lib.hid hv
  clear hr hf hv
  go_enter Tryz.func111, Tryz.ntmps111
  go_upto_region 1 with fail
  refine abs_wp (fun W => W.heap[w.heap.size]? = some (.cells #[.int .i64 r.kind, .slice va r.vars.length vc, .slice na r.nums.length nc, .int .i64 r.n] 69 (0, 0)) ∧ Below w.heap.size w W) ⟨heap_new0 _ _, Below.new1 _ _⟩ ?_
  rintro W ⟨k0, hb⟩
  have zW : w.heap.size < W.heap.size := (Array.getElem?_eq_some_iff.1 k0).1
  have K0 := Lib.hid k0; have HB := Lib.hid hb
  clear k0 hb
  go_wp2_with fail
  go_loopw [5, 6] (fun ov iv wr => ∃ k : Nat, k ≤ r.vars.length ∧ iv = .int .i64 k ∧ wr.ownsRow W.heap.size 56 1 ov k (natsV (ofD f (r.vars.take k))) ∧ Below W.heap.size W wr) (fun _ iv _ => r.vars.length - (intOf iv).toNat)
  case atStart => exact ⟨0, Nat.zero_le _, rfl, World.ownsRow_nil _ _ _ _, Below.refl _ _⟩
  case round =>
    obtain ⟨k, hk, rfl, hown, hbw⟩ := hrel
    have kr := heap_later K0.out hbw zW
    have c1 : wr.cell? ⟨w.heap.size, 1, none⟩ = some (.slice va r.vars.length vc) := by rw [cell_of_row _ _ _ _ _ _ kr]; rfl
    have zr : w.heap.size < wr.heap.size := (Array.getElem?_eq_some_iff.1 kr).1
    have HOW := Lib.hid hown; have HBW := Lib.hid hbw
    by_cases hlt : k < r.vars.length
    · obtain ⟨_, a1, cc1, hae, _, _, hr1⟩ := HR.out.vars.below (HB.out.trans (hbw.mono HB.out.size)) hB
      cases hae
      obtain ⟨b1, o1, rfl, hb1, hc1⟩ := hr1 (by omega)
      have q0 : wr.cell? ⟨b1, o1 + k, none⟩ = some (.int .i64 (iget r.vars k)) := hc1 k (by omega)
      have hvk := HV.out k hlt
      obtain ⟨x, hx⟩ : ∃ x : Nat, iget r.vars k = (x : Int) := ⟨(iget r.vars k).toNat, by omega⟩
      rw [hx] at q0 hvk
      have hxl : x < f.length := by omega
      obtain ⟨_, a2, cc2, hae, _, _, hr2⟩ := HF.out.below (HB.out.trans (hbw.mono HB.out.size)) hB
      cases hae
      obtain ⟨b2, o2, rfl, hb2, hc2⟩ := hr2 (by omega)
      have q1 : wr.cell? ⟨b2, o2 + x, none⟩ = some (.int .u64 (nget f x : Nat)) := hc2 x (by omega)
      have HTK : Hid (ofD f (r.vars.take (k + 1)) = ofD f (r.vars.take k) ++ [nget f x]) := Lib.hid (by rw [ofD_take f _ hlt, hx]; rfl)
      obtain ⟨y, hy⟩ : ∃ y, y = nget f x := ⟨_, rfl⟩
      rw [← hy] at q1 HTK
      clear hr1 hc1 hr2 hc2 hown hbw hx hy kr
      have hnw := Below.new1 wr (.cells #[.int .u64 (y : Nat)] 56)
      have HNW := Lib.hid hnw
      clear hnw
      go_wp2_with (at_builtin; refine wpList_append_own _ rfl _ _ 22 rfl W.heap.size 56 i0 (.int .u64 0) 1 8 Tryz.underlying22 hin hz0 hz1 hz2 rfl (by decide) _ _ _ rfl (HOW.out.alloc _) ⟨wr.heap.size, 0, none⟩ 1 1 (natsV [y]) rfl rfl ?c1 ?c2 ?c3 ?c4 ?c5 ?_)
      case c1 =>
        intro q u hq
        match q, hq with
        | 0, hq => cases hq; rw [Addr.add_lit, Nat.zero_add, cell_of_row _ _ _ _ _ _ (heap_new0 wr _)]; rfl
      case c2 => exact natsV_one _
      case c3 => unfold maxLen; omega
      case c4 => omega
      case c5 => have := HBW.out.size; simp; omega
      intro v' w3 hown3 hgrow3 _
      have hb3 := ((HBW.out.trans (HNW.out.mono HBW.out.size)).grown hgrow3 (by have := HBW.out.size; simp; omega) (fun q hq => (HOW.out.lt q hq).1))
      rw [natsV_append, ← HTK.out] at hown3
      have HO3 := Lib.hid hown3; have HB3 := Lib.hid hb3
      clear hown3 hgrow3 hb3
      go_wp2
      go_roundw
      case rel => exact ⟨k + 1, by omega, by go_num, HO3.out, HB3.out⟩
      case measure => simp [intOf]; omega
    · have hk2 : k = r.vars.length := by omega
      subst hk2
      have hown2 := hown
      rw [List.take_length] at hown2
      have HOW2 := Lib.hid hown2
      go_wp2
      go_ret
      exact ⟨_, rfl, own_mono HOW2.out HB.out.size, HB.out.trans (HBW.out.mono HB.out.size)⟩
end Go.Proofs.YtdmmegmkdhinjaaGreatDoor
