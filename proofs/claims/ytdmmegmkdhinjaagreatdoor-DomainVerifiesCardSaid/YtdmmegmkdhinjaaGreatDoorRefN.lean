/- The reference of Domain: Core. -/
import Derived.Test.YtdmmegmkdhinjaaGreatDoorRefM
namespace Go.Proofs.YtdmmegmkdhinjaaGreatDoor
open Go Go.RowKit
attribute [local go_sem] cell_grow u64_sAnd u64_sOr u64_sDiff sDiff_all zeqI zneI sAnd_bit_zero sAnd_bit_zeroN sAnd_bit_nonzero

theorem boolsF_get (h : List Bool) (i : Nat) (hi : i < h.length) : (boolsV h)[i]? = some (.bool (fget h i)) := by simp [boolsV, fget, hi]
theorem boolsF_put {w : World} {base g n cap i : Nat} {b : Bool} {h : List Bool} (ho : w.ownsRow base 4 1 (.slice (some ⟨g, 0, none⟩) n cap) n (boolsV h)) : (w.setCell ⟨g, i, none⟩ (.bool b)).ownsRow base 4 1 (.slice (some ⟨g, 0, none⟩) n cap) n (boolsV (h.set i b)) := by
  have := (ho.stored i (.bool b)).1
  rwa [show (boolsV h).set i (.bool b) = boolsV (h.set i b) by unfold boolsV; rw [List.map_set]] at this
theorem infoB : (Tryz.prog.info? 4).map (fun i => (i.zero, i.size, i.bytes)) = some (some (.bool false), 1, 1) := by kernel_rfl
theorem made_bools (n : Nat) : (madeCells #[.bool false] n).toList = boolsV (List.replicate n false) := by
  rw [toList_madeCells_one]
  unfold boolsV
  rw [List.map_replicate]
theorem markW_take (ws : List Int) (h : List Bool) {k : Nat} (hk : k < ws.length) : markW (ws.take (k + 1)) h = (markW (ws.take k) h).set (iget ws k).toNat true := by
  unfold markW
  rw [List.take_succ_eq_append_getElem hk, List.foldl_append]
  simp [iget, hk]
theorem markN_len (l : List Cut) : ∀ (k : Nat) (h : List Bool), (markN l k h).length = h.length
  | 0, _ => rfl
  | k + 1, h => by
    show (markN l k (markD l k h)).length = _
    rw [markN_len l k]
    unfold markD
    split
    · rw [markW_len]
    · rfl
theorem markD_len (l : List Cut) (k : Nat) (h : List Bool) : (markD l k h).length = h.length := by
  unfold markD; split
  · rw [markW_len]
  · rfl
/-- The rules below one that a marked cut has. -/
def coreUp (l : List Cut) (h : List Bool) (r : Nat) : List Int := ((List.range r).filter fun (r : Nat) => (List.range l.length).any fun i => fget h i && ((cget l i).rule == natI r)).map natI
theorem coreUp_succ (l : List Cut) (h : List Bool) (r : Nat) : coreUp l h (r + 1) = coreUp l h r ++ (if (List.range l.length).any (fun i => fget h i && ((cget l i).rule == natI r)) then [natI r] else []) := by
  unfold coreUp
  rw [List.range_succ, List.filter_append, List.map_append]
  congr 1
  split
  · rename_i hh; rw [List.filter_cons, if_pos hh]; rfl
  · rename_i hh; rw [List.filter_cons, if_neg hh]; rfl
theorem coreUp_le (l : List Cut) (h : List Bool) (r : Nat) : (coreUp l h r).length ≤ r := by
  unfold coreUp
  rw [List.length_map]
  have := List.length_filter_le (fun r : Nat => (List.range l.length).any fun i => fget h i && ((cget l i).rule == natI r)) (List.range r)
  rwa [List.length_range] at this
theorem any_succ (q : Nat → Bool) (k : Nat) : (List.range (k + 1)).any q = ((List.range k).any q || q k) := by
  rw [List.range_succ, List.any_append]; simp
set_option maxRecDepth 100000 in
set_option maxHeartbeats 4000000 in
theorem refCore_any (p : Dp) (hr12 : p.rules.length ≤ 1000) (l : List Cut) (hl : RLog p l) (n : Nat) (hn : n < l.length) (h130 : l.length ≤ 1000) (dv rv lv : Value) (w : World) {B : Nat} (hdv : Us w B dv p.doms) (hrv : DRls w B rv p.rules) (hlv : Cts w B lv l) (hB : B ≤ w.heap.size) :
    Calls Tryz.prog 19 #[.agg #[dv, rv], lv, .int .i64 (n : Nat)] w fun e w' => ∃ v, e = .returned v ∧ w'.ownsRow w.heap.size 3 1 v (coreD p l n).length (intsV (coreD p l n)) ∧ Below w.heap.size w w' := by
  rw [← core_ref hl hn]
  have HLV := Lib.hid hlv; have HRL := Lib.hid hl
  obtain ⟨da, dc, rfl⟩ := hdv.slice
  obtain ⟨ra, rc, rfl⟩ := hrv.slice
  obtain ⟨la, lc, rfl⟩ := hlv.slice
  obtain ⟨i0, hin, hz0, hz1, hz2⟩ := info_parts info3
  obtain ⟨j0, kin, kz0, kz1, kz2⟩ := info_parts infoB
  clear hdv hrv hlv hl
  have K0 := Lib.hid (heap_new0 w (.cells #[.slice da p.doms.length dc, .slice ra p.rules.length rc] 25)); have HB0 := Lib.hid (Below.new1 w (.cells #[.slice da p.doms.length dc, .slice ra p.rules.length rc] 25))
  go_enter Tryz.func19, Tryz.ntmps19
  go_upto_region 1 with fail
  refine abs_wp (fun W => W.heap[w.heap.size]? = some (.cells #[.slice da p.doms.length dc, .slice ra p.rules.length rc] 25 (0, 0)) ∧ Below w.heap.size w W) ⟨K0.out, HB0.out⟩ ?_
  clear K0 HB0
  rintro W ⟨k0, hb0⟩
  have zW : w.heap.size < W.heap.size := (Array.getElem?_eq_some_iff.1 k0).1
  have K0 := Lib.hid k0; have HB0 := Lib.hid hb0
  clear k0 hb0
  go_wp2_with (at_make; refine wpList_make_full _ rfl _ _ 90 rfl (w.heap.size + 1) 4 j0 (.bool false) 1 Tryz.underlying90 kin kz0 kz1 .i64 .i64 _ _ l.length rfl rfl rfl rfl ?c1 ?c2 ?c3 ?_)
  case c1 => rw [kz2]; omega
  case c2 => unfold maxLen; omega
  case c3 => exact zW
  rw [made_bools]
  intro w1 hown hgrow
  have hb1 := HB0.out.grown hgrow (by omega) (fun q hq => by simp at hq)
  have k1 := (hgrow.block w.heap.size zW (by simp)).trans K0.out
  obtain ⟨g, hg⟩ : ∃ g, g = W.heap.size := ⟨_, rfl⟩
  rw [← hg] at hown ⊢
  have hgw : w.heap.size < g := by omega
  have zg : g < w1.heap.size := (hown.lt g rfl).2
  obtain ⟨mF, hmF⟩ : ∃ mF, mF = markN l (n + 1) ((List.replicate l.length false).set n true) := ⟨_, rfl⟩
  have HRES : Hid (refCoreD p l n = coreUp l mF p.rules.length) := Lib.hid (by rw [hmF]; rfl)
  have e0 : w1.cell? ⟨g, n, none⟩ = some (.bool false) := by
    rw [hown.cellAt n (by omega), boolsF_get _ _ (by rw [List.length_replicate]; exact hn)]
    simp [fget, hn]
  have f0 : w1.frozen? ⟨g, n, none⟩ = false := hown.frozenAt n
  have hnI : ((n : Nat) : Int) < ((l.length : Nat) : Int) := by omega
  have HO2 := Lib.hid (boolsF_put (i := n) (b := true) hown)
  have HK2 := Lib.hid ((Below.heap_setCell w1 ⟨g, n, none⟩ (.bool true) w.heap.size (by show w.heap.size ≠ g; omega)).trans k1)
  have HB2 := Lib.hid (hb1.setCell (p := ⟨g, n, none⟩) (by show w.heap.size ≤ g; omega) (.bool true))
  have HMF := Lib.hid hmF
  clear hown hgrow hb1 k1 K0 HB0 hg hmF kin kz0 kz1 kz2 j0
  go_wp2_with fail
  go_loopw [8] (fun iv wr => ∃ (k : Nat) (h : List Bool), k ≤ n + 1 ∧ iv = .int .i64 ((k : Nat) - 1 : Int) ∧ Hid (h.length = l.length) ∧ markN l k h = mF ∧ wr.ownsRow (w.heap.size + 1) 4 1 (.slice (some ⟨g, 0, none⟩) l.length l.length) l.length (boolsV h) ∧
    wr.heap[w.heap.size]? = some (.cells #[.slice da p.doms.length dc, .slice ra p.rules.length rc] 25 (0, 0)) ∧ Below w.heap.size w wr) (fun iv _ => ((intOf iv) + 1).toNat)
  case atStart => exact ⟨n + 1, _, Nat.le_refl _, by simp, Lib.hid (by rw [List.length_set, List.length_replicate]), HMF.out.symm, HO2.out, HK2.out, HB2.out⟩
  case round =>
    obtain ⟨k, h, hk, rfl, hhl, hmk, hown, kr, hb⟩ := hrel
    have HHL := hhl; have HMK := Lib.hid hmk; have HO := Lib.hid hown; have KR := Lib.hid kr; have HBR := Lib.hid hb
    have zg : g < wr.heap.size := (hown.lt g rfl).2
    have c1 : wr.cell? ⟨w.heap.size, 1, none⟩ = some (.slice ra p.rules.length rc) := by rw [cell_of_row _ _ _ _ _ _ kr]; rfl
    clear hhl hmk hown kr hb HO2 HK2 HB2 e0 f0
    cases k with
    | zero =>
      rw [show (((0 : Nat) : Int) - 1) = -1 from rfl]
      have hm2 : h = mF := HMK.out
      subst hm2
      clear HMK HMF
      go_wp2_with fail
      clear c1
      go_loopw [10, 11] (fun ov rv wr => ∃ r : Nat, r ≤ p.rules.length ∧ rv = .int .i64 r ∧ wr.ownsRow w.heap.size 3 1 ov (coreUp l h r).length (intsV (coreUp l h r)) ∧ wr.ownsRow (w.heap.size + 1) 4 1 (.slice (some ⟨g, 0, none⟩) l.length l.length) l.length (boolsV h) ∧
        wr.heap[w.heap.size]? = some (.cells #[.slice da p.doms.length dc, .slice ra p.rules.length rc] 25 (0, 0)) ∧ Below w.heap.size w wr) (fun _ rv _ => p.rules.length - (intOf rv).toNat)
      case atStart => exact ⟨0, Nat.zero_le _, rfl, World.ownsRow_nil _ _ _ _, HO.out, KR.out, HBR.out⟩
      case round =>
        obtain ⟨r, hr, rfl, hov, hown, kr, hb⟩ := hrel
        have c1 : wr.cell? ⟨w.heap.size, 1, none⟩ = some (.slice ra p.rules.length rc) := by rw [cell_of_row _ _ _ _ _ _ kr]; rfl
        obtain ⟨oa, oc, rfl⟩ := own_form hov
        have hcl := coreUp_le l h r
        obtain ⟨out, hout⟩ : ∃ out, out = coreUp l h r := ⟨_, rfl⟩
        rw [← hout] at hov hcl ⊢
        have HOUT := Lib.hid hout; have HOV := Lib.hid hov; have HO := Lib.hid hown; have KR := Lib.hid kr; have HBR := Lib.hid hb
        clear hout hov hown kr hb
        by_cases hlt : r < p.rules.length
        · have hrI : ((r : Nat) : Int) < ((p.rules.length : Nat) : Int) := by omega
          go_wp2_with fail
          clear c1
          go_loopw [12, 13] (fun isv iv wr => ∃ i : Nat, i ≤ l.length ∧ iv = .int .i64 i ∧ isv = .bool ((List.range i).any fun i => fget h i && ((cget l i).rule == natI r)) ∧ wr.ownsRow w.heap.size 3 1 (.slice oa out.length oc) out.length (intsV out) ∧ wr.ownsRow (w.heap.size + 1) 4 1 (.slice (some ⟨g, 0, none⟩) l.length l.length) l.length (boolsV h) ∧
            wr.heap[w.heap.size]? = some (.cells #[.slice da p.doms.length dc, .slice ra p.rules.length rc] 25 (0, 0)) ∧ Below w.heap.size w wr) (fun _ iv _ => l.length - (intOf iv).toNat)
          case atStart => exact ⟨0, Nat.zero_le _, rfl, rfl, HOV.out, HO.out, KR.out, HBR.out⟩
          case round =>
            obtain ⟨i, hi, rfl, rfl, hov, hown, kr, hb⟩ := hrel
            obtain ⟨is, his⟩ : ∃ is, is = (List.range i).any fun i => fget h i && ((cget l i).rule == natI r) := ⟨_, rfl⟩
            rw [← his]
            have HIS := Lib.hid his; have HOV := Lib.hid hov; have HO := Lib.hid hown; have KR := Lib.hid kr; have HBR := Lib.hid hb
            clear his hov hown kr hb
            by_cases hil : i < l.length
            · obtain ⟨lb, lo, yv, rfl, hlb, hyv, l0, l1, l2, l3⟩ := (HLV.out.below HBR.out hB).cells hil
              have e0 : wr.cell? ⟨g, i, none⟩ = some (.bool (fget h i)) := by rw [HO.out.cellAt i (by omega), boolsF_get _ _ (by rw [HHL.out]; exact hil)]
              have hiI : ((i : Nat) : Int) < ((l.length : Nat) : Int) := by omega
              have HNX : Hid (((List.range (i + 1)).any fun i => fget h i && ((cget l i).rule == natI r)) = (is || (fget h i && ((cget l i).rule == natI r)))) := Lib.hid (by rw [any_succ, ← HIS.out])
              obtain ⟨b, hbb⟩ : ∃ b, b = fget h i := ⟨_, rfl⟩
              rw [← hbb] at e0 HNX
              obtain ⟨x, hx⟩ : ∃ x, x = (cget l i).rule := ⟨_, rfl⟩
              rw [← hx] at l2 HNX
              clear hbb hx hyv l0 l1 l3
              cases is
              · cases b
                · go_wp2
                  go_roundw
                  case rel => exact ⟨i + 1, by omega, by go_num, by rw [HNX.out]; rfl, HOV.out, HO.out, KR.out, HBR.out⟩
                  case measure => simp [intOf] <;> omega
                · cases hxr : (x == ((r : Nat) : Int))
                  · go_wp2
                    go_roundw
                    case rel => exact ⟨i + 1, by omega, by go_num, by rw [HNX.out, show natI r = ((r : Nat) : Int) from rfl, hxr]; rfl, HOV.out, HO.out, KR.out, HBR.out⟩
                    case measure => simp [intOf] <;> omega
                  · go_wp2
                    go_roundw
                    case rel => exact ⟨i + 1, by omega, by go_num, by rw [HNX.out, show natI r = ((r : Nat) : Int) from rfl, hxr]; rfl, HOV.out, HO.out, KR.out, HBR.out⟩
                    case measure => simp [intOf] <;> omega
              · go_wp2
                go_roundw
                case rel => exact ⟨i + 1, by omega, by go_num, by rw [HNX.out]; rfl, HOV.out, HO.out, KR.out, HBR.out⟩
                case measure => simp [intOf] <;> omega
            · have hi2 : i = l.length := by omega
              subst hi2
              have hUP := coreUp_succ l h r
              rw [← HIS.out, ← HOUT.out] at hUP
              have HUP := Lib.hid hUP
              clear hUP HIS
              cases is
              · go_wp2
                go_roundw
                case rel => exact ⟨r + 1, by omega, by go_num, by rw [HUP.out]; simpa using HOV.out, HO.out, KR.out, HBR.out⟩
                case measure => simp [intOf] <;> omega
              · have hnw := Below.new1 wr (.cells #[.int .i64 (r : Nat)] 3)
                have HNW := Lib.hid hnw
                have hYs := HBR.out.size
                clear hnw
                go_wp2_with (at_builtin; refine wpList_append_own _ rfl _ _ 39 rfl w.heap.size 3 i0 (.int .i64 0) 1 8 Tryz.underlying39 hin hz0 hz1 hz2 rfl (by decide) _ _ _ rfl (HOV.out.alloc _) ⟨wr.heap.size, 0, none⟩ 1 1 (intsV [(r : Int)]) rfl rfl ?c1 ?c2 ?c3 ?c4 ?c5 ?_)
                case c1 =>
                  intro q u hq
                  match q, hq with
                  | 0, hq => cases hq; first | (rw [Addr.add_lit]; exact cell_of_one (heap_new0 _ _)) | rfl
                case c2 => exact ints_one _
                case c3 => unfold maxLen; omega
                case c4 => omega
                case c5 => first | (simp; omega) | omega
                intro v' w9 hown9 hgrow9 _
                rw [intsV_append] at hown9
                have hov1 := own_ck HOV.out (CK.below HNW.out)
                have hol1 := own_ck HO.out (CK.below HNW.out)
                have hk1 := heap_later KR.out HNW.out (Array.getElem?_eq_some_iff.1 KR.out).1
                have hk9 := (hgrow9.block _ (Array.getElem?_eq_some_iff.1 hk1).1 (fun hh => own_apart hov1 hk1 (by decide) _ hh.symm rfl)).trans hk1
                have hol9 := hol1.kept hgrow9 (own_own hol1 hov1 (by decide))
                have hb9 := (HBR.out.trans (HNW.out.mono hYs)).grown hgrow9 (by simp; omega) (fun q hq => by have := (hov1.lt q hq).1; omega)
                have HO9 := Lib.hid hown9; have HL9 := Lib.hid hol9; have HB9 := Lib.hid hb9; have HK9 := Lib.hid hk9
                clear hown9 hgrow9 hov1 hol1 hk1 hk9 hol9 hb9
                go_wp2
                go_roundw
                case rel => exact ⟨r + 1, by omega, by go_num, by rw [HUP.out]; simpa [natI] using HO9.out, HL9.out, HK9.out, HB9.out⟩
                case measure => simp [intOf] <;> omega
        · have hr2 : r = p.rules.length := by omega
          subst hr2
          go_wp2
          go_ret
          rw [HRES.out, ← HOUT.out]
          exact ⟨_, rfl, HOV.out, HBR.out⟩
    | succ m =>
      rw [show (((m + 1 : Nat) : Int) - 1) = ((m : Nat) : Int) by omega]
      have hml : m < l.length := by omega
      obtain ⟨lb, lo, yv, rfl, hlb, hyv, l0, l1, l2, l3⟩ := (HLV.out.below HBR.out hB).cells hml
      have hyl := hyv.1
      obtain ⟨ya, yc, rfl⟩ := hyv.slice
      have HYV := Lib.hid hyv
      have HNB := Lib.hid (HRL.out m hml).2
      have HMN : Hid (markN l m (markD l m h) = mF) := Lib.hid HMK.out
      obtain ⟨ws, hws⟩ : ∃ ws, ws = (cget l m).why := ⟨_, rfl⟩
      rw [← hws] at l3 hyl HYV HNB
      have HWS := Lib.hid hws
      have hmI : ((m : Nat) : Int) < ((l.length : Nat) : Int) := by omega
      clear hws hyv c1 HMK l0 l1 l2
      cases hbm : fget h m
      case false =>
        have HMD : Hid (markD l m h = h) := Lib.hid (by unfold markD; rw [hbm]; rfl)
        have HBM := Lib.hid hbm
        clear hbm l3
        go_wp2_with fail
        go_loopw [9] (fun jv wr => jv = .int .i64 0 ∧ wr.ownsRow (w.heap.size + 1) 4 1 (.slice (some ⟨g, 0, none⟩) l.length l.length) l.length (boolsV h) ∧
          wr.heap[w.heap.size]? = some (.cells #[.slice da p.doms.length dc, .slice ra p.rules.length rc] 25 (0, 0)) ∧ Below w.heap.size w wr) (fun _ _ => 0)
        case atStart => exact ⟨rfl, HO.out, KR.out, HBR.out⟩
        case round =>
          clear HYV HNB
          obtain ⟨rfl, hown, kr, hb⟩ := hrel
          obtain ⟨lb', lo', yv, hae, hlb, hyv, l0, l1, l2, l3⟩ := (HLV.out.below hb hB).cells hml
          cases hae
          rw [← HWS.out] at hyv
          obtain ⟨ya', yc', rfl⟩ := hyv.slice
          have e0 : wr.cell? ⟨g, m, none⟩ = some (.bool false) := by rw [hown.cellAt m (by omega), boolsF_get _ _ (by rw [HHL.out]; exact hml), HBM.out]
          have HO := Lib.hid hown; have KR := Lib.hid kr; have HBR := Lib.hid hb
          clear hyv hown kr hb l0 l1 l2
          by_cases h0 : 0 < ws.length
          · have h0I : (0 : Int) < ((ws.length : Nat) : Int) := by omega
            go_wp2
            go_roundw
            case rel => exact ⟨m, h, by omega, by go_num, HHL, by rw [← HMD.out]; exact HMN.out, HO.out, KR.out, HBR.out⟩
            case measure => simp [intOf] <;> omega
          · have h0I : ¬ (0 : Int) < ((ws.length : Nat) : Int) := by omega
            go_wp2
            go_roundw
            case rel => exact ⟨m, h, by omega, by go_num, HHL, by rw [← HMD.out]; exact HMN.out, HO.out, KR.out, HBR.out⟩
            case measure => simp [intOf] <;> omega
      case true =>
        have HMD : Hid (markD l m h = markW ws h) := Lib.hid (by unfold markD; rw [hbm, HWS.out]; rfl)
        have HBM := Lib.hid hbm
        clear hbm l3
        go_wp2_with fail
        go_loopw [9] (fun jv wr => ∃ j : Nat, j ≤ ws.length ∧ jv = .int .i64 j ∧ wr.ownsRow (w.heap.size + 1) 4 1 (.slice (some ⟨g, 0, none⟩) l.length l.length) l.length (boolsV (markW (ws.take j) h)) ∧
          wr.heap[w.heap.size]? = some (.cells #[.slice da p.doms.length dc, .slice ra p.rules.length rc] 25 (0, 0)) ∧ Below w.heap.size w wr) (fun jv _ => ws.length - (intOf jv).toNat)
        case atStart => exact ⟨0, Nat.zero_le _, rfl, HO.out, KR.out, HBR.out⟩
        case round =>
          clear HYV
          obtain ⟨j, hj, rfl, hown, kr, hb⟩ := hrel
          obtain ⟨lb', lo', yv, hae, hlb, hyv, l0, l1, l2, l3⟩ := (HLV.out.below hb hB).cells hml
          cases hae
          rw [← HWS.out] at hyv
          obtain ⟨_, ya', yc', rfl, _, _, hyr⟩ := hyv
          have hwl : (markW (ws.take j) h).length = l.length := (markW_len _ _).trans HHL.out
          have HWL := Lib.hid hwl
          have hbm : fget (markW (ws.take j) h) m = true := (markW_get (ws.take j) h (fun x hx => by
            obtain ⟨q, rfl, hq⟩ := HNB.out x (List.mem_of_mem_take hx)
            rw [Int.toNat_natCast, HHL.out]; omega) m).2 (.inl HBM.out)
          have e0 : wr.cell? ⟨g, m, none⟩ = some (.bool true) := by rw [hown.cellAt m (by omega), boolsF_get _ _ (by rw [hwl]; exact hml), hbm]
          have zg : g < wr.heap.size := (hown.lt g rfl).2
          have HO := Lib.hid hown; have KR := Lib.hid kr; have HBR := Lib.hid hb
          clear hown kr hb l0 l1 l2 hwl hbm
          by_cases hjl : j < ws.length
          · have hjI : ((j : Nat) : Int) < ((ws.length : Nat) : Int) := by omega
            obtain ⟨yb, yo, rfl, hyb, hyc⟩ := hyr (by omega)
            obtain ⟨q, hq, hqm⟩ := HNB.out (iget ws j) (by unfold iget; rw [List.getElem?_eq_getElem hjl]; exact List.getElem_mem hjl)
            have y0 : wr.cell? ⟨yb, yo + j, none⟩ = some (.int .i64 (q : Nat)) := by rw [hyc j (by omega)]; show some (Value.int .i64 (iget ws j)) = _; rw [hq]
            have HST : Hid (markW (ws.take (j + 1)) h = (markW (ws.take j) h).set q true) := Lib.hid (by rw [markW_take _ _ hjl, hq, Int.toNat_natCast])
            have hql : q < l.length := by omega
            have hqI : ((q : Nat) : Int) < ((l.length : Nat) : Int) := by omega
            have e1 : wr.cell? ⟨g, q, none⟩ = some (.bool (fget (markW (ws.take j) h) q)) := by rw [HO.out.cellAt q (by omega), boolsF_get _ _ (by rw [HWL.out]; exact hql)]
            have f1 : wr.frozen? ⟨g, q, none⟩ = false := HO.out.frozenAt q
            have HO3 := Lib.hid (boolsF_put (i := q) (b := true) HO.out)
            clear hyr hyc hq
            go_wp2
            go_roundw
            case rel => exact ⟨j + 1, by omega, by go_num, by rw [HST.out]; exact HO3.out, (Below.heap_setCell _ _ _ _ (by show w.heap.size ≠ g; omega)).trans KR.out, HBR.out.setCell (p := ⟨g, q, none⟩) (by show w.heap.size ≤ g; omega) _⟩
            case measure => simp [intOf] <;> omega
          · have hj2 : j = ws.length := by omega
            subst hj2
            rw [List.take_length] at HO HWL
            clear hyr e0
            go_wp2
            go_roundw
            case rel => exact ⟨m, markW ws h, by omega, by go_num, HWL, by rw [← HMD.out]; exact HMN.out, HO.out, KR.out, HBR.out⟩
            case measure => simp [intOf] <;> omega
end Go.Proofs.YtdmmegmkdhinjaaGreatDoor
