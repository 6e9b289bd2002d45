/- The reference of Domain: Size, Label; how many ways there are to choose. -/
import Derived.Test.YtdmmegmkdhinjaaGreatDoorBL
import Derived.Test.YtdmmegmkdhinjaaGreatDoorPlainS
import Derived.Test.YtdmmegmkdhinjaaGreatDoorBI
namespace Go.Proofs.YtdmmegmkdhinjaaGreatDoor
open Go Go.RowKit
attribute [local go_sem] cell_grow u64_sAnd u64_sOr u64_sDiff sDiff_all zeqI zneI sAnd_bit_zero sAnd_bit_zeroN sAnd_bit_nonzero

theorem hasD_bitB {d k : Nat} (hk : k < 16) : hasD d (k : Int) = bitB d k := hasD_bit hk
theorem size_cnt {d : Nat} (h : d < 65536) : sizeD d = cntN d 16 := by
  unfold sizeD cntN
  rw [elems_16 h, List.countP_eq_length_filter]; rfl
set_option maxRecDepth 100000 in
set_option maxHeartbeats 1000000 in
theorem refSize_any (d : Nat) (w : World) (hd : U64 d) : Gives Tryz.prog 55 #[.int .u64 (d : Nat)] w (.int .i64 (cntN d 16 : Nat)) := by
  unfold Gives
  have HU := Lib.hid hd
  go_enter Tryz.func55, Tryz.ntmps55
  go_wp2_with fail
  go_loopw [3, 4] (fun nv iv wr => ∃ k : Nat, k ≤ 16 ∧ iv = .int .i64 k ∧ nv = .int .i64 (cntN d k : Nat) ∧ Below w.heap.size w wr) (fun _ iv _ => 16 - (intOf iv).toNat)
  case atStart => exact ⟨0, Nat.zero_le _, rfl, rfl, Below.refl _ _⟩
  case round =>
    obtain ⟨k, hk, rfl, rfl, hb⟩ := hrel
    have HB := Lib.hid hb
    have hle := cntN_le d k
    have HS := Lib.hid (cntN_succ d k)
    obtain ⟨c, hc⟩ : ∃ c, c = cntN d k := ⟨_, rfl⟩
    rw [← hc] at hle HS ⊢
    clear hb
    by_cases hlt : k < 16
    · have hkI : ((k : Nat) : Int) < 16 := by omega
      have HG := Lib.hid (refHas_any d (k : Int) wr HU.out)
      rw [hasD_bitB hlt] at HG
      clear hc
      cases hbt : bitB d k <;> rw [hbt] at HG HS
      case false =>
        clear hbt
        go_wp2_with fail
        refine HG.out.mono ?_
        rintro e1 w4 ⟨rfl, hww⟩
        rw [hww]; clear hww w4 HG
        go_wp2
        go_roundw
        case rel => exact ⟨k + 1, by omega, by go_num, by rw [HS.out]; rfl, HB.out⟩
        case measure => simp [intOf]; omega
      case true =>
        clear hbt
        go_wp2_with fail
        refine HG.out.mono ?_
        rintro e1 w4 ⟨rfl, hww⟩
        rw [hww]; clear hww w4 HG
        go_wp2
        go_roundw
        case rel => exact ⟨k + 1, by omega, by go_num, by rw [HS.out]; go_num, HB.out⟩
        case measure => simp [intOf]; omega
    · have hk2 : k = 16 := by omega
      subst hk2
      have HC := Lib.hid hc
      clear hc
      go_wp2
      go_ret
      exact ⟨by rw [HC.out]; rfl, HB.out⟩
/-- How many ways there are to choose values, counted till there are too many. -/
def wayF : List Nat → Nat → Nat
  | [], n => n
  | d :: ds, n => if n ≤ 2000 then wayF ds (n * max 1 (cntN d 16)) else n
def wideD (p : Dp) : Bool := decide (2000 < wayF p.doms 1)
theorem wayF_end {ds : List Nat} {n : Nat} (h : ¬ n ≤ 2000) : wayF ds n = n := by
  cases ds
  · rfl
  · unfold wayF; rw [if_neg h]
theorem wayF_step {l : List Nat} {k n : Nat} (hk : k < l.length) (h : n ≤ 2000) : wayF (l.drop k) n = wayF (l.drop (k + 1)) (n * max 1 (cntN (nget l k) 16)) := by
  rw [List.drop_eq_getElem_cons hk]
  show (if n ≤ 2000 then wayF (l.drop (k + 1)) (n * max 1 (cntN l[k] 16)) else n) = _
  rw [if_pos h, show nget l k = l[k] by simp [nget, hk]]
set_option maxRecDepth 100000 in
set_option maxHeartbeats 1000000 in
theorem wide_any (p : Dp) (dv rv : Value) (w : World) {B : Nat} (hdv : Us w B dv p.doms) (hB : B ≤ w.heap.size) (hu : U64l p.doms) (ra : Option Addr) (rn rc : Nat) (hrv : rv = .slice ra rn rc) :
    Gives Tryz.prog 20 #[.agg #[dv, rv]] w (.bool (wideD p)) := by
  unfold Gives
  have HDV := Lib.hid hdv; have HU := Lib.hid hu
  have hdl := hdv.1
  obtain ⟨da, dc, rfl⟩ := hdv.slice
  subst hrv
  clear hdv hu
  have K0 := Lib.hid (heap_new0 w (.cells #[.slice da p.doms.length dc, .slice ra rn rc] 25)); have HB0 := Lib.hid (Below.new1 w (.cells #[.slice da p.doms.length dc, .slice ra rn rc] 25))
  obtain ⟨R, hR⟩ : ∃ R, R = wayF p.doms 1 := ⟨_, rfl⟩
  have HW : Hid (wideD p = decide (2000 < R)) := Lib.hid (by rw [hR]; rfl)
  have HR : Hid (wayF (p.doms.drop 0) 1 = R) := Lib.hid (by rw [hR]; rfl)
  clear hR
  go_enter Tryz.func20, Tryz.ntmps20
  go_wp2_with fail
  go_loopw [3, 4] (fun nv iv wr => ∃ k n : Nat, k ≤ p.doms.length ∧ iv = .int .i64 k ∧ nv = .int .i64 n ∧ n ≤ 32000 ∧ wayF (p.doms.drop k) n = R ∧ wr.heap[w.heap.size]? = some (.cells #[.slice da p.doms.length dc, .slice ra rn rc] 25 (0, 0)) ∧ Below w.heap.size w wr) (fun _ iv _ => p.doms.length - (intOf iv).toNat)
  case atStart => exact ⟨0, 1, Nat.zero_le _, rfl, rfl, by decide, HR.out, K0.out, HB0.out⟩
  case round =>
    clear HR K0 HB0
    obtain ⟨k, n, hk, rfl, rfl, hn, hw, hk0, hb⟩ := hrel
    have HK := Lib.hid hk0; have HB := Lib.hid hb; have HWF := Lib.hid hw
    have c0 : wr.cell? ⟨w.heap.size, 0, none⟩ = some (.slice da p.doms.length dc) := by rw [cell_of_row _ _ _ _ _ _ hk0]; rfl
    have z0 : w.heap.size < wr.heap.size := (Array.getElem?_eq_some_iff.1 hk0).1
    clear hk0 hb hw
    by_cases hlt : k < p.doms.length
    · have hkI : ((k : Nat) : Int) < ((p.doms.length : Nat) : Int) := by omega
      by_cases hle : n ≤ 2000
      · have hnI : ((n : Nat) : Int) ≤ 2000 := by omega
        obtain ⟨_, a', c', hae, _, _, hdr⟩ := HDV.out.below HB.out hB
        cases hae
        obtain ⟨db, doff, rfl, zdb, hdc⟩ := hdr (by omega)
        have e0 : wr.cell? ⟨db, doff + k, none⟩ = some (.int .u64 (nget p.doms k : Nat)) := hdc k (by omega)
        have zdb2 : db < wr.heap.size := by omega
        have HNX := Lib.hid ((wayF_step hlt hle).symm.trans HWF.out)
        have hc16 := cntN_le (nget p.doms k) 16
        have HS := Lib.hid (refSize_any (nget p.doms k) wr (HU.out.get k))
        obtain ⟨c, hc⟩ : ∃ c, c = cntN (nget p.doms k) 16 := ⟨_, rfl⟩
        rw [← hc] at HS HNX hc16
        clear hdr hdc hc
        go_wp2_with fail
        refine HS.out.mono ?_
        rintro e1 w4 ⟨rfl, hb4⟩
        have HB4 := Lib.hid (HB.out.trans (hb4.mono HB.out.size)); have HK4 := Lib.hid (heap_later HK.out hb4 z0)
        clear hb4 c0 e0 HS
        by_cases h1 : c ≤ 1
        · have hm : max (1 : Int) ((c : Nat) : Int) = 1 := Int.max_eq_left (by omega)
          have hm2 : n * max 1 c = n := by rw [Nat.max_eq_left h1, Nat.mul_one]
          rw [hm2] at HNX
          go_wp2
          go_roundw
          case rel => exact ⟨k + 1, n, by omega, by go_num, by first | rfl | (try rw [hm]; try simp), by omega, HNX.out, HK4.out, HB4.out⟩
          case measure => simp [intOf]; omega
        · have hm : max (1 : Int) ((c : Nat) : Int) = c := Int.max_eq_right (by omega)
          have hm2 : n * max 1 c = n * c := by rw [Nat.max_eq_right (by omega)]
          rw [hm2] at HNX
          have hnc : n * c ≤ 32000 := Nat.le_trans (Nat.mul_le_mul hle hc16) (by decide)
          obtain ⟨m, hmm⟩ : ∃ m, m = n * c := ⟨_, rfl⟩
          have hw2 : IntKind.i64.wrap (((n : Nat) : Int) * ((c : Nat) : Int)) = ((m : Nat) : Int) := by
            rw [show ((n : Nat) : Int) * ((c : Nat) : Int) = ((m : Nat) : Int) by rw [hmm]; simp]; exact IntWalk.i64_in _ (by omega)
          rw [← hmm] at HNX hnc
          clear hm2 hmm
          go_wp2
          go_roundw
          case rel => exact ⟨k + 1, m, by omega, by go_num, by first | rfl | (rw [hw2]), hnc, HNX.out, HK4.out, HB4.out⟩
          case measure => simp [intOf]; omega
      · have hnI : ¬ ((n : Nat) : Int) ≤ 2000 := by omega
        have hnJ : (2000 : Int) < ((n : Nat) : Int) := by omega
        have HE : Hid (decide (2000 < R) = true) := Lib.hid (by rw [← HWF.out, wayF_end hle]; exact decide_eq_true (by omega))
        clear hle
        go_wp2
        go_ret
        exact ⟨by rw [HW.out, HE.out]; rfl, HB.out⟩
    · have hk2 : k = p.doms.length := by omega
      subst hk2
      have HE : Hid (R = n) := Lib.hid (by rw [← HWF.out, List.drop_length]; rfl)
      by_cases hle : n ≤ 2000
      · have hnJ : ¬ (2000 : Int) < ((n : Nat) : Int) := by omega
        have HF : Hid (decide (2000 < R) = false) := Lib.hid (by rw [HE.out]; exact decide_eq_false (by omega))
        clear hle
        go_wp2
        go_ret
        exact ⟨by rw [HW.out, HF.out]; rfl, HB.out⟩
      · have hnJ : (2000 : Int) < ((n : Nat) : Int) := by omega
        have HF : Hid (decide (2000 < R) = true) := Lib.hid (by rw [HE.out]; exact decide_eq_true (by omega))
        clear hle
        go_wp2
        go_ret
        exact ⟨by rw [HW.out, HF.out]; rfl, HB.out⟩
set_option maxRecDepth 100000 in
set_option maxHeartbeats 2000000 in
theorem refLabel_any (g : List Nat) (hg : ∀ i, nget g i < 65536) (hl : g.length ≤ 1000) (gv : Value) (w : World) {B : Nat} (hgv : Us w B gv g) (hB : B ≤ w.heap.size) :
    Gives Tryz.prog 90 #[gv] w (.int .i64 (labelD g.length g)) := by
  unfold Gives
  have HGV := Lib.hid hgv; have HG := Lib.hid hg
  obtain ⟨da, dc, rfl⟩ := hgv.slice
  clear hgv hg
  have HSZ : Hid (∀ (V : World) (i : Nat), Gives Tryz.prog 55 #[.int .u64 (nget g i : Nat)] V (.int .i64 (sizeD (nget g i) : Nat))) := Lib.hid fun V i => by
    rw [size_cnt (HG.out i)]; exact refSize_any _ V (Nat.lt_trans (HG.out i) (by decide))
  go_enter Tryz.func90, Tryz.ntmps90
  go_wp2_with fail
  go_loopw [3, 4] (fun ov iv wr => ∃ k : Nat, k ≤ g.length ∧ iv = .int .i64 k ∧ ov = .int .i64 (labelD k g) ∧ Below w.heap.size w wr) (fun _ iv _ => g.length - (intOf iv).toNat)
  case atStart => exact ⟨0, Nat.zero_le _, rfl, rfl, Below.refl _ _⟩
  case round =>
    obtain ⟨k, hk, rfl, rfl, hb⟩ := hrel
    have HB := Lib.hid hb
    have HLS := Lib.hid (label_succ k g)
    by_cases hlt : k < g.length
    · have hkI : ((k : Nat) : Int) < ((g.length : Nat) : Int) := by omega
      obtain ⟨_, a', c', hae, _, _, hdr⟩ := HGV.out.below hb hB
      cases hae
      obtain ⟨db, doff, rfl, zdb, hdc⟩ := hdr (by omega)
      have e0 : wr.cell? ⟨db, doff + k, none⟩ = some (.int .u64 (nget g k : Nat)) := hdc k (by omega)
      have zdb2 : db < wr.heap.size := by have := hb.size; omega
      have HS1 := Lib.hid (fun (d : Nat) (os : Array Obj) => HSZ.out (Go.Sort.grow (redrawn wr d) os) k)
      have hs16 := size16 (HG.out k)
      obtain ⟨a, ha⟩ : ∃ a, a = sizeD (nget g k) := ⟨_, rfl⟩
      rw [← ha] at HS1 HLS hs16
      have HA := Lib.hid ha
      have HDC := Lib.hid hdc
      clear hdr hdc ha hb
      by_cases h2 : 2 ≤ a
      · have h2I : (2 : Int) ≤ ((a : Nat) : Int) := by omega
        rcases label_cases g k with ⟨hm, _⟩ | ⟨m, hm, hmk, _⟩
        · have HLB : Hid (labelD (k + 1) g = (k : Int)) := Lib.hid (by rw [HLS.out, if_pos ⟨h2, .inl (by omega)⟩])
          rw [hm]
          clear hm h2 HLS
          go_wp2_with fail
          refine wp_region_qb (by kernel_rfl) (by kernel_rfl) ?_
          repeat go_big_quiet_step ((with_reducible exact Gives.quiet (HS1.out _ _)))
          refine wpQuiet_nil ?_
          intro w4 hb4
          have HB4 := Lib.hid (HB.out.trans (hb4.mono HB.out.size))
          clear hb4
          go_wp2
          go_roundw
          case rel => exact ⟨k + 1, by omega, by go_num, by rw [HLB.out], HB4.out⟩
          case measure => simp [intOf]; omega
        · have e1 : wr.cell? ⟨db, doff + m, none⟩ = some (.int .u64 (nget g m : Nat)) := HDC.out m (by omega)
          have HS2 := Lib.hid (fun (d : Nat) (os : Array Obj) => HSZ.out (Go.Sort.grow (redrawn wr d) os) m)
          have hs17 := size16 (HG.out m)
          have hmI : ((m : Nat) : Int) < ((g.length : Nat) : Int) := by omega
          have hm0 : decide (((m : Nat) : Int) < 0) = false := decide_eq_false (by omega)
          rw [hm, Int.toNat_natCast] at HLS
          obtain ⟨b, hbb⟩ : ∃ b, b = sizeD (nget g m) := ⟨_, rfl⟩
          rw [← hbb] at HS2 HLS hs17
          rw [hm]
          clear hm hbb
          by_cases hab : a < b
          · have habI : ((a : Nat) : Int) < ((b : Nat) : Int) := by omega
            have HLB : Hid (labelD (k + 1) g = (k : Int)) := Lib.hid (by rw [HLS.out, if_pos ⟨h2, .inr hab⟩])
            clear h2 HLS hab
            go_wp2_with fail
            refine wp_region_qb (by kernel_rfl) (by kernel_rfl) ?_
            repeat go_big_quiet_step ((first | (with_reducible exact Gives.quiet (HS1.out _ _)) | (with_reducible exact Gives.quiet (HS2.out _ _))))
            refine wpQuiet_nil ?_
            intro w4 hb4
            have HB4 := Lib.hid (HB.out.trans (hb4.mono HB.out.size))
            clear hb4
            go_wp2
            go_roundw
            case rel => exact ⟨k + 1, by omega, by go_num, by rw [HLB.out], HB4.out⟩
            case measure => simp [intOf]; omega
          · have habI : decide (((a : Nat) : Int) < ((b : Nat) : Int)) = false := decide_eq_false (by omega)
            have habN : decide (a < b) = false := decide_eq_false hab
            have habM : b ≤ a := by omega
            have HLB : Hid (labelD (k + 1) g = (m : Int)) := Lib.hid (by rw [HLS.out, if_neg (fun h => by rcases h.2 with h | h <;> omega)])
            clear h2 HLS hab
            go_wp2_with fail
            refine wp_region_qb (by kernel_rfl) (by kernel_rfl) ?_
            repeat go_big_quiet_step ((first | (with_reducible exact Gives.quiet (HS1.out _ _)) | (with_reducible exact Gives.quiet (HS2.out _ _))))
            refine wpQuiet_nil ?_
            intro w4 hb4
            have HB4 := Lib.hid (HB.out.trans (hb4.mono HB.out.size))
            clear hb4
            go_wp2
            go_roundw
            case rel => exact ⟨k + 1, by omega, by go_num, by rw [HLB.out], HB4.out⟩
            case measure => simp [intOf]; omega
      · have h2I : decide ((2 : Int) ≤ ((a : Nat) : Int)) = false := decide_eq_false (by omega)
        have HLB : Hid (labelD (k + 1) g = labelD k g) := Lib.hid (by rw [HLS.out, if_neg (fun h => h2 h.1)])
        obtain ⟨o, ho⟩ : ∃ o, o = labelD k g := ⟨_, rfl⟩
        rw [← ho] at HLB ⊢
        clear h2 HLS ho
        go_wp2_with fail
        refine wp_region_qb (by kernel_rfl) (by kernel_rfl) ?_
        repeat go_big_quiet_step ((with_reducible exact Gives.quiet (HS1.out _ _)))
        refine wpQuiet_nil ?_
        intro w4 hb4
        have HB4 := Lib.hid (HB.out.trans (hb4.mono HB.out.size))
        clear hb4
        go_wp2
        go_roundw
        case rel => exact ⟨k + 1, by omega, by go_num, by rw [HLB.out], HB4.out⟩
        case measure => simp [intOf]; omega
    · have hk2 : k = g.length := by omega
      subst hk2
      clear hb
      go_wp2
      go_ret
      exact ⟨rfl, HB.out⟩
end Go.Proofs.YtdmmegmkdhinjaaGreatDoor
