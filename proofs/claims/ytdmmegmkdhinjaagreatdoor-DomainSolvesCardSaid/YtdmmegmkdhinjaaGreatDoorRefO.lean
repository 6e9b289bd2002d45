/- The reference of Domain: reason. -/
import Derived.Test.YtdmmegmkdhinjaaGreatDoorRefK
import Derived.Test.YtdmmegmkdhinjaaGreatDoorBE
namespace Go.Proofs.YtdmmegmkdhinjaaGreatDoor
open Go Go.RowKit
attribute [local go_sem] cell_grow u64_sAnd u64_sOr u64_sDiff sDiff_all zeqI zneI sAnd_bit_zero sAnd_bit_zeroN sAnd_bit_nonzero

structure TwoLow (w wr Z : World) : Prop where
  low : Below w.heap.size w Z
  low1 : Below wr.heap.size wr Z
theorem TwoLow.grown {w wr Z Z' : World} {r : Option Nat} (h : TwoLow w wr Z) (hs : w.heap.size ≤ wr.heap.size) (hg : Z.grownBy Z' r) (hr : ∀ q, r = some q → wr.heap.size ≤ q) : TwoLow w wr Z' :=
  ⟨h.low.grown hg h.low.size (fun q hq => Nat.le_trans hs (hr q hq)), h.low1.grown hg h.low1.size hr⟩
def rsnAOps : Array Oper := #[
  { dst := some 51, op := Op.move (Operand.tmp 7), type := 39, pos := "ref.go:247", after := #[], guard := none },
  { dst := some 52, op := Op.move (Operand.tmp 9), type := 3, pos := "ref.go:247", after := #[], guard := none },
  { dst := some 53, op := Op.slice 39 (Operand.tmp 51) none (some (Operand.tmp 52)) none, type := 39, pos := "ref.go:247", after := #[{ on := 0, ground := Ground.data }, { on := 1, ground := Ground.data }], guard := none },
  { dst := some 54, op := Op.call { callee := Callee.builtin Builtin.append, args := #[Operand.const (Value.slice none 0 0), Operand.tmp 53], argTypes := #[39, 39] }, type := 39, pos := "ref.go:247", after := #[{ on := 2, ground := Ground.data }], guard := none },
  { dst := some 55, op := Op.move (Operand.tmp 7), type := 39, pos := "ref.go:247", after := #[], guard := none },
  { dst := some 56, op := Op.move (Operand.tmp 9), type := 3, pos := "ref.go:247", after := #[], guard := none },
  { dst := some 57, op := Op.binOp BinOp.add 3 (Operand.tmp 56) (Operand.const (Value.int IntKind.i64 1)) 3, type := 3, pos := "ref.go:247", after := #[{ on := 5, ground := Ground.data }], guard := none },
  { dst := some 58, op := Op.slice 39 (Operand.tmp 55) (some (Operand.tmp 57)) none none, type := 39, pos := "ref.go:247", after := #[{ on := 4, ground := Ground.data }, { on := 6, ground := Ground.data }], guard := none },
  { dst := some 59, op := Op.call { callee := Callee.builtin Builtin.append, args := #[Operand.tmp 54, Operand.tmp 58], argTypes := #[39, 39] }, type := 39, pos := "ref.go:247", after := #[{ on := 3, ground := Ground.data }, { on := 7, ground := Ground.data }, { on := 3, ground := Ground.chain }], guard := none },
  { dst := some 10, op := Op.assign (Operand.tmp 59), type := 39, pos := "ref.go:247", after := #[{ on := 8, ground := Ground.data }, { on := 8, ground := Ground.chain }, { on := 0, ground := Ground.phase }, { on := 1, ground := Ground.phase }, { on := 2, ground := Ground.phase }, { on := 3, ground := Ground.phase }, { on := 4, ground := Ground.phase }, { on := 5, ground := Ground.phase }, { on := 6, ground := Ground.phase }, { on := 7, ground := Ground.phase }, { on := 8, ground := Ground.phase }], guard := none }]
set_option maxRecDepth 100000 in
set_option maxHeartbeats 4000000 in
theorem refWhy_any (p : Dp) (hpo : probD p = true) (l : List Cut) (hl : ∀ i, i < l.length → CFitN p.doms.length (cget l i)) (hln : l.length ≤ 1000) (x j : Nat) (v : Int) (hx : (x : Int) ∈ (drget p.rules j).vars) (hj : j < p.rules.length)
    (ya : Option Addr) (yn yc : Nat) (dv rv lv : Value) (w : World) {B : Nat} (hdv : Us w B dv p.doms) (hrv : DRls w B rv p.rules) (hlv : Cts w B lv l) (hB : B ≤ w.heap.size) :
    Calls Tryz.prog 78 #[.agg #[dv, rv], lv, .agg #[.int .i64 x, .int .i64 v, .int .i64 j, .slice ya yn yc]] w fun r w' => ∃ yv, r = .returned yv ∧ w'.ownsRow w.heap.size 3 1 yv (reasonD p l ⟨x, v, j, []⟩).why.length (intsV (reasonD p l ⟨x, v, j, []⟩).why) ∧ Below w.heap.size w w' := by
  have HDV := Lib.hid hdv; have HRV := Lib.hid hrv; have HLV := Lib.hid hlv; have HL := Lib.hid hl; have HPO := Lib.hid hpo
  have HX := Lib.hid hx
  obtain ⟨da, dc, rfl⟩ := hdv.slice
  obtain ⟨ra, rc, rfl⟩ := hrv.slice
  obtain ⟨la, lc, rfl⟩ := hlv.slice
  obtain ⟨i0, hi, hz0, hz1, hz2⟩ := info_parts info3
  clear hdv hrv hlv hl hpo hx
  have hn2 := heap_new2 w (.cells #[.slice da p.doms.length dc, .slice ra p.rules.length rc] 25) (.cells #[.int .i64 x, .int .i64 v, .int .i64 j, .slice ya yn yc] 73)
  have K0 := Lib.hid hn2.1; have F0 := Lib.hid hn2.2
  have HB0 := Lib.hid (Below.new2 w (.cells #[.slice da p.doms.length dc, .slice ra p.rules.length rc] 25) (.cells #[.int .i64 x, .int .i64 v, .int .i64 j, .slice ya yn yc] 73))
  clear hn2
  go_enter Tryz.func78, Tryz.ntmps78
  go_wp2_with fail
  go_loopw [7, 8] (fun yv i wr => ∃ k : Nat, k ≤ l.length ∧ i = .int .i64 k ∧ wr.ownsRow (w.heap.size + 2) 3 1 yv (whyK p l ⟨x, v, j, []⟩ k).length (intsV (whyK p l ⟨x, v, j, []⟩ k)) ∧ wr.heap[w.heap.size]? = some (.cells #[.slice da p.doms.length dc, .slice ra p.rules.length rc] 25 (0, 0)) ∧ wr.heap[w.heap.size + 1]? = some (.cells #[.int .i64 x, .int .i64 v, .int .i64 j, .slice ya yn yc] 73 (0, 0)) ∧ Below w.heap.size w wr) (fun _ i _ => l.length - (intOf i).toNat)
  case atStart => exact ⟨0, Nat.zero_le _, rfl, World.ownsRow_nil _ _ _ _, K0.out, F0.out, HB0.out⟩
  case round =>
    clear K0 F0 HB0
    obtain ⟨k, hk, rfl, hown, k0, f0, hb⟩ := hrel
    have z0 : w.heap.size < wr.heap.size := (Array.getElem?_eq_some_iff.1 k0).1
    have z1 : w.heap.size + 1 < wr.heap.size := (Array.getElem?_eq_some_iff.1 f0).1
    have c0 : wr.cell? ⟨w.heap.size, 0, none⟩ = some (.slice da p.doms.length dc) := by rw [cell_of_row _ _ _ _ _ _ k0]; rfl
    have c1 : wr.cell? ⟨w.heap.size, 1, none⟩ = some (.slice ra p.rules.length rc) := by rw [cell_of_row _ _ _ _ _ _ k0]; rfl
    have d0 : wr.cell? ⟨w.heap.size + 1, 0, none⟩ = some (.int .i64 x) := by rw [cell_of_row _ _ _ _ _ _ f0]; rfl
    have d1 : wr.cell? ⟨w.heap.size + 1, 1, none⟩ = some (.int .i64 v) := by rw [cell_of_row _ _ _ _ _ _ f0]; rfl
    have d2 : wr.cell? ⟨w.heap.size + 1, 2, none⟩ = some (.int .i64 j) := by rw [cell_of_row _ _ _ _ _ _ f0]; rfl
    have d3 : wr.cell? ⟨w.heap.size + 1, 3, none⟩ = some (.slice ya yn yc) := by rw [cell_of_row _ _ _ _ _ _ f0]; rfl
    have HOW := Lib.hid hown; have K0 := Lib.hid k0; have F0 := Lib.hid f0; have HB := Lib.hid hb
    clear hown k0 f0 hb
    by_cases hlt : k < l.length
    · clear c0 d1 d3
      obtain ⟨rb, ro, vv, nv, hra, hrb, hrr, q0, q1, q2, q3⟩ := (HRV.out.below HB.out hB).cells hj
      subst hra
      obtain ⟨va, vc, rfl⟩ := hrr.vars.slice
      obtain ⟨na, nc, rfl⟩ := hrr.nums.slice
      obtain ⟨lb, lo, ov, hla, hlb, hov, l0, l1, l2, l3⟩ := (HLV.out.below HB.out hB).cells hlt
      subst hla
      have zr : rb < wr.heap.size := by omega
      have zl : lb < wr.heap.size := by omega
      have HWS : Hid (whyK p l ⟨x, v, j, []⟩ (k + 1) = if (!((cget l k).var == (x : Int)) && ihas (drget p.rules j).vars (cget l k).var) = true then whyK p l ⟨x, v, j, []⟩ k ++ [(k : Int)] else whyK p l ⟨x, v, j, []⟩ k) := Lib.hid (by rw [whyK_succ]; simp only [Int.toNat_natCast])
      obtain ⟨o, ho⟩ : ∃ o, o = (cget l k).var := ⟨_, rfl⟩
      rw [← ho] at l0 HWS
      have HPL := Lib.hid (fun (d : Nat) (os : Array Obj) => place_any (drget p.rules j) o _ _ (Go.Sort.grow (redrawn wr d) os) ((hrr.mono (show B ≤ wr.heap.size by omega)).below (below_regrown wr d os) (Nat.le_refl _)) (below_regrown wr d os).size)
      unfold ruleV at HPL
      have hkI : ((k : Nat) : Int) < ((l.length : Nat) : Int) := by omega
      have hjI : ((j : Nat) : Int) < ((p.rules.length : Nat) : Int) := by omega
      clear ho hrr hov l1 l2 l3
      have hwl := whyK_length p l ⟨x, v, j, []⟩ k
      cases h0 : (o == (x : Int))
      case true =>
        have e0 : (o != (x : Int)) = false := by rw [bne, h0]; rfl
        rw [h0] at HWS
        have HW2 : Hid (whyK p l ⟨x, v, j, []⟩ (k + 1) = whyK p l ⟨x, v, j, []⟩ k) := Lib.hid (by rw [HWS.out]; rfl)
        clear h0 HPL HWS
        go_wp2_with fail
        refine wp_region_qb (by kernel_rfl) (by kernel_rfl) ?_
        repeat go_big_quiet_step (fail)
        refine wpQuiet_nil ?_
        intro w4 hb4
        have HB4 := Lib.hid (HB.out.trans (hb4.mono HB.out.size)); have K4 := Lib.hid (heap_later K0.out hb4 z0); have F4 := Lib.hid (heap_later F0.out hb4 z1); have HO4 := Lib.hid (own_ck HOW.out (CK.below hb4))
        clear hb4
        go_wp2
        go_roundw
        case rel => exact ⟨k + 1, by omega, by go_num, by rw [HW2.out]; exact HO4.out, K4.out, F4.out, HB4.out⟩
        case measure => simp [intOf]; omega
      case false =>
        have e0 : (o != (x : Int)) = true := by rw [bne, h0]; rfl
        rw [h0] at HWS
        cases h1 : ihas (drget p.rules j).vars o
        case false =>
          have hpl : placeD (drget p.rules j).vars o = -1 := by unfold placeD; rw [h1]; rfl
          rw [h1] at HWS
          rw [hpl] at HPL
          have HW2 : Hid (whyK p l ⟨x, v, j, []⟩ (k + 1) = whyK p l ⟨x, v, j, []⟩ k) := Lib.hid (by rw [HWS.out]; rfl)
          clear h0 h1 hpl HWS
          go_wp2_with fail
          refine wp_region_qb (by kernel_rfl) (by kernel_rfl) ?_
          repeat go_big_quiet_step ((with_reducible exact Gives.quiet (HPL.out _ _)))
          refine wpQuiet_nil ?_
          intro w4 hb4
          have HB4 := Lib.hid (HB.out.trans (hb4.mono HB.out.size)); have K4 := Lib.hid (heap_later K0.out hb4 z0); have F4 := Lib.hid (heap_later F0.out hb4 z1); have HO4 := Lib.hid (own_ck HOW.out (CK.below hb4))
          clear hb4
          go_wp2
          go_roundw
          case rel => exact ⟨k + 1, by omega, by go_num, by rw [HW2.out]; exact HO4.out, K4.out, F4.out, HB4.out⟩
          case measure => simp [intOf]; omega
        case true =>
          have hpl : placeD (drget p.rules j).vars o = ((drget p.rules j).vars.idxOf o : Nat) := by unfold placeD; rw [h1]; rfl
          rw [h1] at HWS
          rw [hpl] at HPL
          have HW2 : Hid (whyK p l ⟨x, v, j, []⟩ (k + 1) = whyK p l ⟨x, v, j, []⟩ k ++ [(k : Int)]) := Lib.hid (by rw [HWS.out]; rfl)
          obtain ⟨ix, hix⟩ : ∃ ix, ix = (drget p.rules j).vars.idxOf o := ⟨_, rfl⟩
          rw [← hix] at HPL
          have hge : (0 : Int) ≤ ((ix : Nat) : Int) := by omega
          clear h0 h1 hpl HWS hix
          go_wp2_with fail
          refine wp_region_qb (by kernel_rfl) (by kernel_rfl) ?_
          repeat go_big_quiet_step ((with_reducible exact Gives.quiet (HPL.out _ _)))
          refine wpQuiet_nil ?_
          intro w4 hb4
          have HB4 := Lib.hid (HB.out.trans (hb4.mono HB.out.size)); have K4 := Lib.hid (heap_later K0.out hb4 z0); have F4 := Lib.hid (heap_later F0.out hb4 z1); have HO4 := Lib.hid (own_ck HOW.out (CK.below hb4))
          have z4 : w.heap.size + 1 < w4.heap.size := by have := hb4.size; omega
          clear hb4 HB K0 F0 HOW l0 q0 q1 q2 q3 c1 d0 d2
          go_wp2_with (at_builtin; refine wpList_append_own _ rfl _ _ 39 rfl (w.heap.size + 2) 3 i0 (.int .i64 0) 1 8 Tryz.underlying39 hi hz0 hz1 hz2 rfl (by decide) _ _ _ rfl (HO4.out.alloc _) ⟨w4.heap.size, 0, none⟩ 1 1 (intsV [(k : Int)]) rfl rfl ?c1 ?c2 ?c3 ?c4 ?c5 ?_)
          case c1 =>
            intro q u hq
            match q, hq with
            | 0, hq => cases hq; rw [Addr.add_lit]; exact cell_of_one (heap_new0 _ _)
          case c2 => exact ints_one _
          case c3 => unfold maxLen; omega
          case c4 => omega
          case c5 => simp; omega
          intro v' w5 hown5 hgrow5 _
          have hb5 := (HB4.out.alloc HB4.out.size (.cells #[.int .i64 (k : Int)] 3)).grown hgrow5 (by have := HB4.out.size; simp; omega) (fun q hq => by have := (HO4.out.lt q hq).1; omega)
          have k5 := (hgrow5.block w.heap.size (by simp; omega) (fun hh => by have := (HO4.out.lt _ hh.symm).1; omega)).trans (heap_old K4.out)
          have f5 := (hgrow5.block (w.heap.size + 1) (by simp; omega) (fun hh => by have := (HO4.out.lt _ hh.symm).1; omega)).trans (heap_old F4.out)
          rw [intsV_append, ← HW2.out] at hown5
          have hlen5 : (whyK p l ⟨x, v, j, []⟩ (k + 1)).length = (whyK p l ⟨x, v, j, []⟩ k).length + 1 := by rw [HW2.out]; simp
          rw [← hlen5] at hown5
          have HO5 := Lib.hid hown5; have HB5 := Lib.hid hb5; have K5 := Lib.hid k5; have F5 := Lib.hid f5
          clear hown5 hgrow5 hb5 k5 f5 hlen5
          go_wp2
          go_roundw
          case rel => exact ⟨k + 1, by omega, by go_num, HO5.out, K5.out, F5.out, HB5.out⟩
          case measure => simp [intOf]; omega
    · have hk2 : k = l.length := by omega
      subst hk2
      have hwl := whyK_length p l ⟨x, v, j, []⟩ l.length
      have hin := ownsRow_ints HOW.out (by omega) rfl
      obtain ⟨xa, xc, hxv⟩ := hin.slice
      have HIN := Lib.hid hin
      obtain ⟨ws, hws⟩ : ∃ ws, ws = whyK p l ⟨x, v, j, []⟩ l.length := ⟨_, rfl⟩
      have HWF : Hid (redD p l ⟨x, v, j, []⟩ ws.length ws = (reasonD p l ⟨x, v, j, []⟩).why) := Lib.hid (by rw [hws]; rfl)
      have HNB : Hid (NatsB l.length ws) := Lib.hid (by rw [hws]; exact whyK_nats p l ⟨x, v, j, []⟩ l.length)
      rw [← hws] at hxv hwl
      have HIN2 : Hid (wr.ownsRow w.heap.size 3 1 u7 ws.length (intsV ws)) := Lib.hid (by rw [hws]; exact own_mono HOW.out (by omega))
      subst hxv
      clear hin hws HIN HOW
      obtain ⟨wo, rfl⟩ : ∃ wo : World, wo = wr := ⟨_, rfl⟩
      go_wp2_with fail
      clear c0 c1 d0 d1 d2 d3
      go_loopw [7, 9] (fun yv i wr => ∃ (z : Int) (m : Nat) (xs : List Int), i = .int .i64 z ∧ z + 1 = m ∧ m ≤ xs.length ∧ xs.length ≤ 1000 ∧ redD p l ⟨x, v, j, []⟩ m xs = (reasonD p l ⟨x, v, j, []⟩).why ∧ NatsB l.length xs ∧ wr.ownsRow w.heap.size 3 1 yv xs.length (intsV xs) ∧
        wr.heap[w.heap.size]? = some (.cells #[.slice da p.doms.length dc, .slice ra p.rules.length rc] 25 (0, 0)) ∧ wr.heap[w.heap.size + 1]? = some (.cells #[.int .i64 x, .int .i64 v, .int .i64 j, .slice ya yn yc] 73 (0, 0)) ∧ Below w.heap.size w wr) (fun _ i _ => (intOf i + 1).toNat)
      case atStart => exact ⟨_, ws.length, ws, rfl, by omega, Nat.le_refl _, by omega, HWF.out, HNB.out, HIN2.out, K0.out, F0.out, HB.out⟩
      case round =>
        clear K0 F0 HB HIN2 HWF HNB z0 z1 hwl
        obtain ⟨z, m, xs, rfl, hzm, hmx, hx1, hwf, hnb, hown, k0, f0, hb⟩ := hrel
        have hin := ownsRow_ints hown (by omega) rfl
        have HOWN := Lib.hid hown
        clear hown
        have z0 : w.heap.size < wr.heap.size := (Array.getElem?_eq_some_iff.1 k0).1
        have z1 : w.heap.size + 1 < wr.heap.size := (Array.getElem?_eq_some_iff.1 f0).1
        have HIN := Lib.hid hin; have K0 := Lib.hid k0; have F0 := Lib.hid f0; have HB := Lib.hid hb; have HNB := Lib.hid hnb; have HWF := Lib.hid hwf
        obtain ⟨xa, xc, rfl⟩ := hin.slice
        have hnc : xs.length ≤ xc := by obtain ⟨_, a', cap', hv, h, _⟩ := hin; cases hv; exact h
        have hcm : xc ≤ 9223372036854775807 := by obtain ⟨_, a', cap', hv, _, h, _⟩ := hin; cases hv; unfold maxLen at h; omega
        clear hin k0 f0 hb hnb hwf
        by_cases hz : 0 ≤ z
        · obtain ⟨q, rfl⟩ : ∃ q : Nat, z = q := ⟨z.toNat, by omega⟩
          obtain rfl : m = q + 1 := by omega
          obtain ⟨wo2, rfl⟩ : ∃ wo2 : World, wo2 = wr := ⟨_, rfl⟩
          obtain ⟨_, a', cap', hae, _, _, hrow⟩ := HIN.out
          cases hae
          obtain ⟨xb, xo, rfl, hxb, hxcell⟩ := hrow (by omega)
          clear hrow hxcell hzm hz
          have hqc : q ≤ xc := by omega
          have hqn : q + 1 ≤ xs.length := by omega
          obtain ⟨ad, had⟩ : ∃ ad : Option Addr, ad = if xc = q + 1 then some ⟨xb, xo, none⟩ else some ⟨xb, xo + (q + 1), none⟩ := ⟨_, rfl⟩
          have HROW : Hid (Row wo2 wo2.heap.size 1 (.slice ad (xs.length - (q + 1)) (xc - (q + 1))) (xs.length - (q + 1)) (fun i => .int .i64 (iget (xs.drop (q + 1)) i))) := Lib.hid (by
            rw [had]
            by_cases hx : xc = q + 1
            · rw [if_pos hx, show xs.length - (q + 1) = 0 by omega]
              exact ⟨Nat.zero_le _, _, _, rfl, Nat.zero_le _, by unfold maxLen; omega, fun h => absurd h (Nat.lt_irrefl _)⟩
            · rw [if_neg hx]; exact ints_drop HIN.out hqn hx)
          have htkl : (xs.take q).length = q := by simp; omega
          have hdpl : (xs.drop (q + 1)).length = xs.length - (q + 1) := by simp
          have HTK : Hid (Row wo2 wo2.heap.size 1 (.slice (some ⟨xb, xo, none⟩) q xc) q (fun i => .int .i64 (iget (xs.take q) i))) := Lib.hid (by have := HIN.out.take (k := q) (by omega); unfold Ints at this; rwa [htkl] at this)
          have HTL := Lib.hid htkl; have HDL := Lib.hid hdpl
          clear htkl hdpl
          have HAD := Lib.hid had
          clear had
          go_wp2_with fail
          refine wp_region_held_drew (S := TwoLow w wo2) (by kernel_rfl) ⟨Below.drewn HB.out, Below.drewn (Below.refl _ _)⟩ (fun hHeld => ?_)
          change wpAnyH _ _ rsnAOps _ _ _ _ _ _
          refine abs_anyHS (fun _ => True) trivial hHeld ?_
          clear hHeld
          rintro V - hHeld
          have h2 : (q : Int) + 1 ≤ ((xs.length : Nat) : Int) := by omega
          have h3 : (0 : Int) ≤ (q : Int) + 1 := by omega
          have h4 : ((q : Int) + 1).toNat = q + 1 := by omega
          have h5 : IntKind.i64.wrap ((q : Int) + 1) = (q : Int) + 1 := IntWalk.i64_in _ (by omega)
          refine wpAnyH_take (i := 0) (oi := { dst := some 51, op := Op.move (Operand.tmp 7), type := 39, pos := "ref.go:247", after := #[], guard := none }) (v := ?_) rfl (by kernel_rfl) (by kernel_rfl) (by kernel_rfl) (fun _ _ _ h => h) (Or.inl ⟨by kernel_rfl, ?_⟩) hHeld ?_
          rotate_left
          · intro w hSw
            clear hSw
            go_simp
            try with_reducible rfl
          try simp only [Act.put, List.setIfInBounds_toArray, List.set_cons_zero, List.set_cons_succ]
          refine wpAnyH_take (i := 1) (oi := { dst := some 52, op := Op.move (Operand.tmp 9), type := 3, pos := "ref.go:247", after := #[], guard := none }) (v := ?_) rfl (by kernel_rfl) (by kernel_rfl) (by kernel_rfl) (fun _ _ _ h => h) (Or.inl ⟨by kernel_rfl, ?_⟩) hHeld ?_
          rotate_left
          · intro w hSw
            clear hSw
            go_simp
            try with_reducible rfl
          try simp only [Act.put, List.setIfInBounds_toArray, List.set_cons_zero, List.set_cons_succ]
          refine wpAnyH_take (i := 2) (oi := { dst := some 53, op := Op.slice 39 (Operand.tmp 51) none (some (Operand.tmp 52)) none, type := 39, pos := "ref.go:247", after := #[{ on := 0, ground := Ground.data }, { on := 1, ground := Ground.data }], guard := none }) (v := ?_) rfl (by kernel_rfl) (by kernel_rfl) (by kernel_rfl) (fun _ _ _ h => h) (Or.inl ⟨by kernel_rfl, ?_⟩) hHeld ?_
          rotate_left
          · intro w hSw
            clear hSw
            go_simp
            try with_reducible rfl
          try simp only [Act.put, List.setIfInBounds_toArray, List.set_cons_zero, List.set_cons_succ]
          refine wpAnyH_take (i := 4) (oi := { dst := some 55, op := Op.move (Operand.tmp 7), type := 39, pos := "ref.go:247", after := #[], guard := none }) (v := ?_) rfl (by kernel_rfl) (by kernel_rfl) (by kernel_rfl) (fun _ _ _ h => h) (Or.inl ⟨by kernel_rfl, ?_⟩) hHeld ?_
          rotate_left
          · intro w hSw
            clear hSw
            go_simp
            try with_reducible rfl
          try simp only [Act.put, List.setIfInBounds_toArray, List.set_cons_zero, List.set_cons_succ]
          refine wpAnyH_take (i := 5) (oi := { dst := some 56, op := Op.move (Operand.tmp 9), type := 3, pos := "ref.go:247", after := #[], guard := none }) (v := ?_) rfl (by kernel_rfl) (by kernel_rfl) (by kernel_rfl) (fun _ _ _ h => h) (Or.inl ⟨by kernel_rfl, ?_⟩) hHeld ?_
          rotate_left
          · intro w hSw
            clear hSw
            go_simp
            try with_reducible rfl
          try simp only [Act.put, List.setIfInBounds_toArray, List.set_cons_zero, List.set_cons_succ]
          refine wpAnyH_take (i := 6) (oi := { dst := some 57, op := Op.binOp BinOp.add 3 (Operand.tmp 56) (Operand.const (Value.int IntKind.i64 1)) 3, type := 3, pos := "ref.go:247", after := #[{ on := 5, ground := Ground.data }], guard := none }) (v := ?_) rfl (by kernel_rfl) (by kernel_rfl) (by kernel_rfl) (fun _ _ _ h => h) (Or.inl ⟨by kernel_rfl, ?_⟩) hHeld ?_
          rotate_left
          · intro w hSw
            clear hSw
            go_simp
            try with_reducible rfl
          try simp only [Act.put, List.setIfInBounds_toArray, List.set_cons_zero, List.set_cons_succ]
          refine wpAnyH_take (i := 7) (oi := { dst := some 58, op := Op.slice 39 (Operand.tmp 55) (some (Operand.tmp 57)) none none, type := 39, pos := "ref.go:247", after := #[{ on := 4, ground := Ground.data }, { on := 6, ground := Ground.data }], guard := none }) (v := ?_) rfl (by kernel_rfl) (by kernel_rfl) (by kernel_rfl) (fun _ _ _ h => h) (Or.inl ⟨by kernel_rfl, ?_⟩) hHeld ?_
          rotate_left
          · intro w hSw
            clear hSw
            go_simp
            try with_reducible rfl
          try simp only [Act.put, List.setIfInBounds_toArray, List.set_cons_zero, List.set_cons_succ]
          clear h2 h3 h4 h5
          rw [← HAD.out]
          have hs02 : w.heap.size ≤ wo2.heap.size := by omega
          refine wpAnyH_ready (rs := [3]) (by kernel_rfl) (by simp) ?_
          refine AllReadyH.cons (o := { dst := some 54, op := Op.call { callee := Callee.builtin Builtin.append, args := #[Operand.const (Value.slice none 0 0), Operand.tmp 53], argTypes := #[39, 39] }, type := 39, pos := "ref.go:247", after := #[{ on := 2, ground := Ground.data }], guard := none }) rfl (fun K hK => ?_) AllReadyH.nil
          rw [if_pos (by rfl)]
          refine wp_append_row _ _ 39 rfl wo2.heap.size 3 i0 (.int .i64 0) 1 8 Tryz.underlying39 hi hz0 hz1 hz2 rfl (by decide) (.slice none 0 0) 0 [] rfl (World.ownsRow_nil _ _ _ _) (.slice (some ⟨xb, xo, none⟩) q xc) q _ wo2.heap.size rfl (HTK.out.below hHeld.low1 (Nat.le_refl _)) (intsV (xs.take q)) (by rw [intsV_length, HTL.out, Nat.mul_one]) (fun j hj => ints_get _ j (by rw [HTL.out]; omega)) (ints_one _) (by unfold maxLen; omega) (by omega) hHeld.low1.size ?_
          intro v1 V1 hown1 hgrow1 _
          have hs1 := hHeld.grown hs02 hgrow1 (fun q hq => by simp [Value.ownBlock] at hq)
          simp only [Nat.zero_add, List.nil_append] at hown1
          have HO1 := Lib.hid hown1
          clear hown1 hgrow1
          refine hK.out _ _ (hs1) (fun hHeld => ?_)
          clear hK K
          try simp only [Act.put, List.setIfInBounds_toArray, List.set_cons_zero, List.set_cons_succ]
          clear hs1
          refine wpAnyH_ready (rs := [8]) (by kernel_rfl) (by simp) ?_
          refine AllReadyH.cons (o := { dst := some 59, op := Op.call { callee := Callee.builtin Builtin.append, args := #[Operand.tmp 54, Operand.tmp 58], argTypes := #[39, 39] }, type := 39, pos := "ref.go:247", after := #[{ on := 3, ground := Ground.data }, { on := 7, ground := Ground.data }, { on := 3, ground := Ground.chain }], guard := none }) rfl (fun K hK => ?_) AllReadyH.nil
          rw [if_pos (by rfl)]
          refine wp_append_row _ _ 39 rfl wo2.heap.size 3 i0 (.int .i64 0) 1 8 Tryz.underlying39 hi hz0 hz1 hz2 rfl (by decide) v1 q (intsV (xs.take q)) rfl HO1.out (.slice ad (xs.length - (q + 1)) (xc - (q + 1))) (xs.length - (q + 1)) _ wo2.heap.size rfl (HROW.out.below hHeld.low1 (Nat.le_refl _)) (intsV (xs.drop (q + 1))) (by rw [intsV_length, HDL.out, Nat.mul_one]) (fun j hj => ints_get _ j (by rw [HDL.out]; omega)) (ints_one _) (by unfold maxLen; omega) (by omega) hHeld.low1.size ?_
          intro v2 V2 hown2 hgrow2 _
          have hs2 := hHeld.grown hs02 hgrow2 (fun q hq => (HO1.out.lt q hq).1)
          rw [intsV_append, ← List.eraseIdx_eq_take_drop_succ] at hown2
          have hel : (xs.eraseIdx q).length = q + (xs.length - (q + 1)) := by rw [List.length_eraseIdx_of_lt (by omega)]; omega
          have hin2 := ownsRow_ints hown2 (by omega) hel
          obtain ⟨x2a, x2n, x2c, rfl⟩ : ∃ a n c, v2 = .slice a n c := by obtain ⟨a, c, h⟩ := hin2.slice; exact ⟨_, _, _, h⟩
          rw [← hel] at hown2
          have HIN2 := Lib.hid hin2; have HEL := Lib.hid hel; have HOW2 := Lib.hid (own_mono hown2 hs02)
          clear hown2 hgrow2 HO1 hin2 hel
          refine hK.out _ _ (hs2) (fun hHeld => ?_)
          clear hK K
          try simp only [Act.put, List.setIfInBounds_toArray, List.set_cons_zero, List.set_cons_succ]
          clear hs2
          refine wpAnyH_take (i := 9) (oi := { dst := some 10, op := Op.assign (Operand.tmp 59), type := 39, pos := "ref.go:247", after := #[{ on := 8, ground := Ground.data }, { on := 8, ground := Ground.chain }, { on := 0, ground := Ground.phase }, { on := 1, ground := Ground.phase }, { on := 2, ground := Ground.phase }, { on := 3, ground := Ground.phase }, { on := 4, ground := Ground.phase }, { on := 5, ground := Ground.phase }, { on := 6, ground := Ground.phase }, { on := 7, ground := Ground.phase }, { on := 8, ground := Ground.phase }], guard := none }) (v := ?_) rfl (by kernel_rfl) (by kernel_rfl) (by kernel_rfl) (fun _ _ _ h => h) (Or.inl ⟨by kernel_rfl, ?_⟩) hHeld ?_
          rotate_left
          · intro w hSw
            clear hSw
            go_simp
            try with_reducible rfl
          try simp only [Act.put, List.setIfInBounds_toArray, List.set_cons_zero, List.set_cons_succ]
          refine wpAnyH_done (by kernel_rfl) ?_ _
          have k2 := heap_later K0.out hHeld.low1 (by omega)
          have f2 := heap_later F0.out hHeld.low1 z1
          have y1 : w.heap.size + 1 < V2.heap.size := (Array.getElem?_eq_some_iff.1 f2).1
          have c0 : V2.cell? ⟨w.heap.size, 0, none⟩ = some (.slice da p.doms.length dc) := by rw [cell_of_row _ _ _ _ _ _ k2]; rfl
          have c1 : V2.cell? ⟨w.heap.size, 1, none⟩ = some (.slice ra p.rules.length rc) := by rw [cell_of_row _ _ _ _ _ _ k2]; rfl
          have d0 : V2.cell? ⟨w.heap.size + 1, 0, none⟩ = some (.int .i64 x) := by rw [cell_of_row _ _ _ _ _ _ f2]; rfl
          have d1 : V2.cell? ⟨w.heap.size + 1, 1, none⟩ = some (.int .i64 v) := by rw [cell_of_row _ _ _ _ _ _ f2]; rfl
          have d2 : V2.cell? ⟨w.heap.size + 1, 2, none⟩ = some (.int .i64 j) := by rw [cell_of_row _ _ _ _ _ _ f2]; rfl
          have d3 : V2.cell? ⟨w.heap.size + 1, 3, none⟩ = some (.slice ya yn yc) := by rw [cell_of_row _ _ _ _ _ _ f2]; rfl
          have HBV2 := Lib.hid hHeld.low; have K2 := Lib.hid k2; have F2 := Lib.hid f2; have HLW := Lib.hid hHeld.low1
          have HNE := Lib.hid (HNB.out.erase q)
          obtain ⟨b1, hb1⟩ : ∃ b1, explD p l ⟨x, v, j, xs.eraseIdx q⟩ = b1 := ⟨_, rfl⟩
          have HWN : Hid (redD p l ⟨x, v, j, []⟩ (q + 1) xs = redD p l ⟨x, v, j, []⟩ q (if b1 then xs.eraseIdx q else xs)) := Lib.hid (by
            rw [← hb1, redD_succ])
          have HRS := Lib.hid (hb1 ▸ refReason_any p HPO.out l x j v (xs.eraseIdx q) HL.out HNE.out.get HX.out hj ya yn yc _ _ _ _ V2 (B := V2.heap.size) ((HDV.out.below HBV2.out hB).mono (by omega)) ((HRV.out.below HBV2.out hB).mono (by omega)) ((HLV.out.below HBV2.out hB).mono (by omega)) HIN2.out (Nat.le_refl _))
          clear hHeld k2 f2 hb1
          go_wp2_with fail
          refine HRS.out.mono ?_
          rintro r V3 ⟨rfl, hb3⟩
          have HB3 := Lib.hid (HBV2.out.trans (hb3.mono HBV2.out.size)); have K3 := Lib.hid (heap_later K2.out hb3 (by omega)); have F3 := Lib.hid (heap_later F2.out hb3 y1)
          have HI3 := Lib.hid (own_ck HOW2.out (CK.below hb3))
          have HX3 := Lib.hid (own_ck HOWN.out (CK.below (HLW.out.trans (hb3.mono HLW.out.size))))
          clear hb3 c0 c1 d0 d1 d2 d3
          cases b1
          case false =>
            go_wp2
            go_roundw
            case rel => exact ⟨_, q, xs, rfl, by omega, by omega, by omega, by have := HWN.out; rw [if_neg (by decide)] at this; rw [← this]; exact HWF.out, HNB.out, HX3.out, K3.out, F3.out, HB3.out⟩
            case measure => simp [intOf]
          case true =>
            go_wp2
            go_roundw
            case rel => exact ⟨_, q, xs.eraseIdx q, rfl, by omega, by rw [HEL.out]; omega, by rw [HEL.out]; omega, by have := HWN.out; simp only [if_true] at this; rw [← this]; exact HWF.out, HNE.out, HI3.out, K3.out, F3.out, HB3.out⟩
            case measure => simp [intOf]
        · have hm0 : m = 0 := by omega
          subst hm0
          have HF : Hid ((reasonD p l ⟨x, v, j, []⟩).why = xs) := Lib.hid HWF.out.symm
          clear hzm
          go_wp2
          go_ret
          exact ⟨_, rfl, by rw [HF.out]; exact HOWN.out, HB.out⟩
end Go.Proofs.YtdmmegmkdhinjaaGreatDoor
