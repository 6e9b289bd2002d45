/- The law DomainSupports, walked. -/
import Derived.Test.YtdmmegmkdhinjaaDoorBO
import Derived.Test.YtdmmegmkdhinjaaDoorBN
namespace Go.Proofs.YtdmmegmkdhinjaaDoor
open Go Go.RowKit
attribute [local go_sem] cell_grow u64_sAnd u64_sOr u64_sDiff sDiff_all zeqI zneI sAnd_bit_zero sAnd_bit_zeroN sAnd_bit_nonzero

theorem refW_le (r : Dr) : ∀ (k i : Nat) (l : List Nat), (refW r k i l).length ≤ k
  | 0, _, _ => Nat.le_refl _
  | k + 1, i, l => by
    show (match (List.range 16).find? (fun v => possD r (l.set i (sAnd (nget l i) (bitN v)))) with | some v => _ | none => _ : List Int).length ≤ _
    split
    · rw [List.length_cons]; exact Nat.succ_le_succ (refW_le r k _ _)
    · rw [List.length_cons]; exact Nat.succ_le_succ (refW_le r k _ _)
def supLOps : Array Oper := #[
  { dst := some 100, op := Op.move (Operand.tmp 11), type := 28, pos := "law.go:55", after := #[], guard := none },
  { dst := some 101, op := Op.binOp BinOp.eql 28 (Operand.tmp 100) (Operand.const (Value.int IntKind.i64 0)) 28, type := 4, pos := "law.go:55", after := #[{ on := 0, ground := Ground.data }], guard := none },
  { dst := some 102, op := Op.move (Operand.tmp 101), type := 4, pos := "law.go:55", after := #[{ on := 1, ground := Ground.data }], guard := none },
  { dst := some 103, op := Op.move (Operand.tmp 10), type := 30, pos := "law.go:55", after := #[{ on := 2, ground := Ground.guard }], guard := some (2, true) },
  { dst := some 104, op := Op.fieldAddr 25 (Operand.tmp 4) 1, type := 0, pos := "law.go:55", after := #[{ on := 2, ground := Ground.guard }], guard := some (2, true) },
  { dst := some 105, op := Op.load 23 (Operand.tmp 104), type := 23, pos := "law.go:55", after := #[{ on := 4, ground := Ground.data }, { on := 2, ground := Ground.guard }], guard := some (2, true) },
  { dst := some 106, op := Op.move (Operand.tmp 1), type := 3, pos := "law.go:55", after := #[{ on := 2, ground := Ground.guard }], guard := some (2, true) },
  { dst := some 107, op := Op.indexAddr 23 (Operand.tmp 105) (Operand.tmp 106), type := 0, pos := "law.go:55", after := #[{ on := 5, ground := Ground.data }, { on := 6, ground := Ground.data }, { on := 2, ground := Ground.guard }], guard := some (2, true) },
  { dst := some 108, op := Op.load 35 (Operand.tmp 107), type := 35, pos := "law.go:55", after := #[{ on := 7, ground := Ground.data }, { on := 2, ground := Ground.guard }], guard := some (2, true) },
  { dst := some 109, op := Op.fieldAddr 25 (Operand.tmp 4) 0, type := 0, pos := "law.go:55", after := #[{ on := 2, ground := Ground.guard }], guard := some (2, true) },
  { dst := some 110, op := Op.load 22 (Operand.tmp 109), type := 22, pos := "law.go:55", after := #[{ on := 9, ground := Ground.data }, { on := 2, ground := Ground.guard }], guard := some (2, true) },
  { dst := some 111, op := Op.move (Operand.tmp 2), type := 3, pos := "law.go:55", after := #[{ on := 2, ground := Ground.guard }], guard := some (2, true) },
  { dst := some 112, op := Op.move (Operand.tmp 3), type := 3, pos := "law.go:55", after := #[{ on := 2, ground := Ground.guard }], guard := some (2, true) },
  { dst := some 113, op := Op.call { callee := Callee.value (Operand.func 16), args := #[Operand.tmp 108, Operand.tmp 110, Operand.tmp 111, Operand.tmp 112], argTypes := #[35, 22, 3, 3] }, type := 30, pos := "law.go:55", after := #[{ on := 8, ground := Ground.data }, { on := 10, ground := Ground.data }, { on := 11, ground := Ground.data }, { on := 12, ground := Ground.data }, { on := 2, ground := Ground.chain }, { on := 2, ground := Ground.guard }], guard := some (2, true) },
  { dst := some 114, op := Op.call { callee := Callee.value (Operand.func 15), args := #[Operand.tmp 103, Operand.tmp 113], argTypes := #[30, 30] }, type := 4, pos := "law.go:55", after := #[{ on := 3, ground := Ground.data }, { on := 13, ground := Ground.data }, { on := 13, ground := Ground.chain }, { on := 2, ground := Ground.guard }], guard := some (2, true) },
  { dst := some 115, op := Op.pick (Operand.tmp 102) (Operand.tmp 114) (Operand.const (Value.bool false)), type := 4, pos := "law.go:55", after := #[{ on := 2, ground := Ground.data }, { on := 14, ground := Ground.data }], guard := none },
  { dst := some 116, op := Op.move (Operand.tmp 115), type := 4, pos := "law.go:55", after := #[{ on := 15, ground := Ground.data }, { on := 14, ground := Ground.chain }], guard := none },
  { dst := some 117, op := Op.call { callee := Callee.value (Operand.func 10), args := #[], argTypes := #[] }, type := 4, pos := "law.go:55", after := #[{ on := 16, ground := Ground.chain }, { on := 16, ground := Ground.guard }], guard := some (16, true) },
  { dst := some 118, op := Op.pick (Operand.tmp 116) (Operand.tmp 117) (Operand.const (Value.bool false)), type := 4, pos := "law.go:55", after := #[{ on := 16, ground := Ground.data }, { on := 17, ground := Ground.data }], guard := none },
  { dst := some 8, op := Op.assign (Operand.tmp 118), type := 4, pos := "law.go:55", after := #[{ on := 18, ground := Ground.data }, { on := 17, ground := Ground.chain }, { on := 0, ground := Ground.phase }, { on := 1, ground := Ground.phase }, { on := 2, ground := Ground.phase }, { on := 3, ground := Ground.phase }, { on := 4, ground := Ground.phase }, { on := 5, ground := Ground.phase }, { on := 6, ground := Ground.phase }, { on := 7, ground := Ground.phase }, { on := 8, ground := Ground.phase }, { on := 9, ground := Ground.phase }, { on := 10, ground := Ground.phase }, { on := 11, ground := Ground.phase }, { on := 12, ground := Ground.phase }, { on := 13, ground := Ground.phase }, { on := 14, ground := Ground.phase }, { on := 15, ground := Ground.phase }, { on := 16, ground := Ground.phase }, { on := 17, ground := Ground.phase }, { on := 18, ground := Ground.phase }], guard := none }]
set_option maxRecDepth 100000 in
set_option maxHeartbeats 4000000 in
theorem domainSupports_any (p : Dp) (rn at_ v : Int) (dv rv : Value) (w : World) {B : Nat} (hdv : Us w B dv p.doms) (hrv : DRls w B rv p.rules) (hB0 : 0 < B) (hB : B ≤ w.heap.size) (hu : U64l p.doms) (hT : Tab w) :
    Gives Tryd.prog 3 #[.agg #[dv, rv], .int .i64 rn, .int .i64 at_, .int .i64 v] w (.bool true) := by
  unfold Gives
  have hw0 : 0 < w.heap.size := by omega
  have HDV := Lib.hid hdv; have HRV := Lib.hid hrv; have HT := Lib.hid hT; have HU := Lib.hid hu
  have hrl := hrv.len
  have hdl := hdv.1
  obtain ⟨da, dc, rfl⟩ := hdv.slice
  obtain ⟨ra, rc, rfl⟩ := hrv.slice
  clear hdv hrv hT hu
  have K0 := Lib.hid (heap_new0 w (.cells #[.slice da p.doms.length dc, .slice ra p.rules.length rc] 25)); have HB0 := Lib.hid (Below.new1 w (.cells #[.slice da p.doms.length dc, .slice ra p.rules.length rc] 25))
  go_enter Tryd.func3, Tryd.ntmps3
  go_wp2_with fail
  refine (small_any p _ _ _ (HDV.out.below HB0.out hB) (HRV.out.below HB0.out hB) (by simp; omega)).mono ?_
  rintro e w1 ⟨rfl, hb1⟩
  have HB1 := Lib.hid (HB0.out.trans (hb1.mono (by simp))); have K1 := Lib.hid (heap_later K0.out hb1 (by simp))
  clear hb1 K0 HB0
  have z1 : w.heap.size < w1.heap.size := (Array.getElem?_eq_some_iff.1 K1.out).1
  cases hsm : smallD p
  case false =>
    clear hsm
    go_wp2_with fail
    refine (works_any _ (HT.out.below HB1.out hw0) (by omega)).mono ?_
    rintro e w2 ⟨rfl, hb2⟩
    have HF := Lib.hid (HB1.out.trans (hb2.mono HB1.out.size))
    clear hb2
    go_wp2
    go_ret
    exact ⟨rfl, HF.out⟩
  case true =>
    clear hsm
    have c0 : w1.cell? ⟨w.heap.size, 0, none⟩ = some (.slice da p.doms.length dc) := by rw [cell_of_row _ _ _ _ _ _ K1.out]; rfl
    have c1 : w1.cell? ⟨w.heap.size, 1, none⟩ = some (.slice ra p.rules.length rc) := by rw [cell_of_row _ _ _ _ _ _ K1.out]; rfl
    go_wp2_with fail
    refine (check_any p _ _ _ (HDV.out.below HB1.out hB) (HRV.out.below HB1.out hB) (by omega)).mono ?_
    rintro e w2 ⟨rfl, hb2⟩
    have HB2 := Lib.hid (HB1.out.trans (hb2.mono HB1.out.size)); have K2 := Lib.hid (heap_later K1.out hb2 z1)
    clear hb2 c0 c1
    have z2 : w.heap.size < w2.heap.size := (Array.getElem?_eq_some_iff.1 K2.out).1
    have c0 : w2.cell? ⟨w.heap.size, 0, none⟩ = some (.slice da p.doms.length dc) := by rw [cell_of_row _ _ _ _ _ _ K2.out]; rfl
    have c1 : w2.cell? ⟨w.heap.size, 1, none⟩ = some (.slice ra p.rules.length rc) := by rw [cell_of_row _ _ _ _ _ _ K2.out]; rfl
    go_wp2_with fail
    refine (support_any p rn at_ v _ _ w2 (HDV.out.below HB2.out hB) (HRV.out.below HB2.out hB) hB0 (by omega) (HT.out.below HB2.out hw0)).mono ?_
    rintro e w3 ⟨lv, rfl, hown, hb3⟩
    obtain ⟨la, lc, rfl⟩ := own_form hown
    have HB3 := Lib.hid (HB2.out.trans (hb3.mono HB2.out.size)); have K3 := Lib.hid (heap_later K2.out hb3 z2); have HOWN := Lib.hid hown
    clear hb3 c0 c1 hown
    have z3 : w.heap.size < w3.heap.size := (Array.getElem?_eq_some_iff.1 K3.out).1
    have c0 : w3.cell? ⟨w.heap.size, 0, none⟩ = some (.slice da p.doms.length dc) := by rw [cell_of_row _ _ _ _ _ _ K3.out]; rfl
    have c1 : w3.cell? ⟨w.heap.size, 1, none⟩ = some (.slice ra p.rules.length rc) := by rw [cell_of_row _ _ _ _ _ _ K3.out]; rfl
    go_wp2_with fail
    refine (refProb_any p _ _ _ (HDV.out.below HB3.out hB) (HRV.out.below HB3.out hB) (by omega) HU.out).mono ?_
    rintro e w4 ⟨rfl, hb4⟩
    have HB4 := Lib.hid (HB3.out.trans (hb4.mono HB3.out.size)); have K4 := Lib.hid (heap_later K3.out hb4 z3); have HL4 := Lib.hid (own_ck HOWN.out (CK.below hb4))
    clear hb4 c0 c1 HOWN
    have z4 : w.heap.size < w4.heap.size := (Array.getElem?_eq_some_iff.1 K4.out).1
    have c0 : w4.cell? ⟨w.heap.size, 0, none⟩ = some (.slice da p.doms.length dc) := by rw [cell_of_row _ _ _ _ _ _ K4.out]; rfl
    have c1 : w4.cell? ⟨w.heap.size, 1, none⟩ = some (.slice ra p.rules.length rc) := by rw [cell_of_row _ _ _ _ _ _ K4.out]; rfl
    have HW4 := Lib.hid (works_any w4 (HT.out.below HB4.out hw0) (by omega))
    unfold errOf
    cases hpo : probD p
    case false =>
      have he : supE p rn at_ v = 2 := by unfold supE; rw [hpo]; rfl
      have hl : (supL p rn at_ v).length = 0 := by unfold supL; rw [if_neg (by omega)]; rfl
      rw [he, hl]
      clear hpo he hl
      go_wp2_with fail
      refine HW4.out.mono ?_
      rintro e w5 ⟨rfl, hb5⟩
      have HF := Lib.hid (HB4.out.trans (hb5.mono HB4.out.size))
      clear hb5
      go_wp2
      go_ret
      exact ⟨rfl, HF.out⟩
    case true =>
      have HPO := Lib.hid hpo
      have HPP := Lib.hid (probD_parts hpo)
      clear hpo
      by_cases hin : (0 ≤ rn ∧ rn < (p.rules.length : Int))
      case neg =>
        have he : supE p rn at_ v = 2 := by
          unfold supE
          rw [show inB rn 0 ((p.rules.length : Int) - 1) = false by unfold inB; rw [Bool.eq_false_iff]; intro h; simp at h; omega]; simp
        have hl : (supL p rn at_ v).length = 0 := by unfold supL; rw [if_neg (by omega)]; rfl
        rw [he, hl]
        clear he hl
        by_cases h0 : rn < 0
        · clear hin
          go_wp2_with fail
          refine HW4.out.mono ?_
          rintro e w5 ⟨rfl, hb5⟩
          have HF := Lib.hid (HB4.out.trans (hb5.mono HB4.out.size))
          clear hb5
          go_wp2
          go_ret
          exact ⟨rfl, HF.out⟩
        · have h1 : (p.rules.length : Int) ≤ rn := by omega
          clear hin
          go_wp2_with fail
          refine HW4.out.mono ?_
          rintro e w5 ⟨rfl, hb5⟩
          have HF := Lib.hid (HB4.out.trans (hb5.mono HB4.out.size))
          clear hb5
          go_wp2
          go_ret
          exact ⟨rfl, HF.out⟩
      case pos =>
        obtain ⟨k, rfl⟩ : ∃ k : Nat, rn = k := ⟨rn.toNat, by omega⟩
        have hk : k < p.rules.length := by omega
        obtain ⟨rb, ro, vv, nv, rfl, hrb, hra, q0, q1, q2, q3⟩ := (HRV.out.below HB4.out hB).cells hk
        obtain ⟨va, vc, rfl⟩ := hra.vars.slice
        obtain ⟨na, nc, rfl⟩ := hra.nums.slice
        have zr : rb < w4.heap.size := by omega
        have hkI : (k : Int) < (p.rules.length : Int) := by omega
        obtain ⟨r, hr⟩ : ∃ r, r = drget p.rules k := ⟨_, rfl⟩
        have hr0 := HPP.out.2.2.2.2 k hk
        have hin2 : inB (k : Int) 0 ((p.rules.length : Int) - 1) = true := by unfold inB; simp; omega
        have HSE : Hid (∀ a u, supE p k a u = if inB a 0 ((r.vars.length : Int) - 1) then (if suppD p.doms r a.toNat u then 0 else 5) else 2) := Lib.hid fun a u => by
          unfold supE
          rw [HPO.out, hin2, Int.toNat_natCast, ← hr, suppD_pad]; rfl
        have HSL : Hid (∀ a u, supE p k a u = 0 → supL p k a u = witD r r.vars.length 0 (ofAt (padD p.doms) r a.toNat u)) := Lib.hid fun a u h => by
          unfold supL
          rw [if_pos h, Int.toNat_natCast, ← hr]
        rw [← hr] at hra q0 q1 q2 q3 hr0
        have HRA := Lib.hid hra; have HR0 := Lib.hid hr0; have HRR := Lib.hid hr
        have hvl := hra.vars.1
        clear hra hr0 hr hin hin2
        by_cases ha : (0 ≤ at_ ∧ at_ < (r.vars.length : Int))
        case neg =>
          have he : supE p k at_ v = 2 := by
            rw [HSE.out, if_neg]
            unfold inB; simp; omega
          have hl : (supL p k at_ v).length = 0 := by unfold supL; rw [if_neg (by omega)]; rfl
          rw [he, hl]
          clear he hl
          by_cases h0 : at_ < 0
          · clear ha
            go_wp2_with fail
            refine HW4.out.mono ?_
            rintro e w5 ⟨rfl, hb5⟩
            have HF := Lib.hid (HB4.out.trans (hb5.mono HB4.out.size))
            clear hb5
            go_wp2
            go_ret
            exact ⟨rfl, HF.out⟩
          · have h1 : (r.vars.length : Int) ≤ at_ := by omega
            clear ha
            go_wp2_with fail
            refine HW4.out.mono ?_
            rintro e w5 ⟨rfl, hb5⟩
            have HF := Lib.hid (HB4.out.trans (hb5.mono HB4.out.size))
            clear hb5
            go_wp2
            go_ret
            exact ⟨rfl, HF.out⟩
        case pos =>
          obtain ⟨a, rfl⟩ : ∃ a : Nat, at_ = a := ⟨at_.toNat, by omega⟩
          have ha' : a < r.vars.length := by omega
          have haI : (a : Int) < (r.vars.length : Int) := by omega
          have he : supE p k a v = if suppD p.doms r a v then 0 else 5 := by
            rw [HSE.out, if_pos (by unfold inB; simp; omega), Int.toNat_natCast]
          have HSQ := Lib.hid (fun (d : Nat) (os : Array Obj) => refSupp_any r HR0.out p.doms rfl (by have := HPP.out.2.1; omega) HPP.out.2.2.2.1 a ha' v _ _ _ (Go.Sort.grow (redrawn w4 d) os) (B := w4.heap.size) ((HRA.out.mono (show B ≤ w4.heap.size by omega)).below (below_regrown w4 d os) (Nat.le_refl _)) (((HDV.out.below HB4.out hB).mono (show B ≤ w4.heap.size by omega)).below (below_regrown w4 d os) (Nat.le_refl _)) (below_regrown w4 d os).size)
          unfold ruleV at HSQ
          cases hs : suppD p.doms r a v <;> rw [hs] at HSQ he
          case false =>
            have hl : (supL p k a v).length = 0 := by unfold supL; rw [if_neg (by rw [he]; decide)]; rfl
            rw [he, hl]
            clear he hl hs ha
            go_wp2_with fail
            refine wp_region_qb (by kernel_rfl) (by kernel_rfl) ?_
            repeat go_big_quiet_step ((with_reducible exact Gives.quiet (HSQ.out _ _)))
            refine wpQuiet_nil ?_
            intro w5 hb5
            have HB5 := Lib.hid (HB4.out.trans (hb5.mono HB4.out.size))
            have z5 : 0 < w5.heap.size := by have := hb5.size; omega
            clear hb5
            go_wp2_with fail
            refine (works_any _ (HT.out.below HB5.out hw0) z5).mono ?_
            rintro e w6 ⟨rfl, hb6⟩
            have HF := Lib.hid (HB5.out.trans (hb6.mono HB5.out.size))
            clear hb6
            go_wp2
            go_ret
            exact ⟨rfl, HF.out⟩
          case true =>
            obtain ⟨m, rfl, hm16⟩ := hasD_nat (d := nget (ofD p.doms r.vars) a) (v := v) (by unfold suppD at hs; rw [Bool.and_eq_true] at hs; exact hs.1)
            obtain ⟨l0, hl0⟩ : ∃ l0, l0 = (ofD p.doms r.vars).set a (bitN m) := ⟨_, rfl⟩
            have hl0n : l0.length = r.vars.length := by rw [hl0, List.length_set, ofD_length]
            have hlw : supL p k a (m : Nat) = refW r r.vars.length 0 l0 := by
              rw [HSL.out _ _ (by rw [he]; rfl), refW_eq HR0.out r.vars.length 0 l0 (by omega) hl0n (by
                rw [hl0]
                exact set_lt (fun j => ofD_lt2 (fun i => HPP.out.2.2.2.1 i) r.vars j) (bit16 hm16)) (by
                unfold suppD at hs; rw [Bool.and_eq_true, Int.toNat_natCast] at hs
                rw [hl0]; exact hs.2)]
              rw [hl0]; unfold ofAt; rw [ofD_pad, Int.toNat_natCast, if_pos (by unfold suppD at hs; rw [Bool.and_eq_true] at hs; exact hs.1), Int.toNat_natCast]
            rw [hl0] at hlw
            have HWT := Lib.hid (fun (V : World) (hV : Below w4.heap.size w4 V) => refWit_any r HR0.out p.doms rfl (by have := HPP.out.2.1; omega) HPP.out.2.2.2.1 a ha' m hm16 _ _ _ V ((HRA.out.mono (show B ≤ w4.heap.size by omega)).below hV (Nat.le_refl _)) (((HDV.out.below HB4.out hB).mono (show B ≤ w4.heap.size by omega)).below hV (Nat.le_refl _)) hV.size)
            unfold ruleV at HWT
            rw [← hl0] at HWT hlw
            obtain ⟨xs, hxs⟩ : ∃ xs, xs = refW r r.vars.length 0 l0 := ⟨_, rfl⟩
            rw [← hxs] at HWT hlw
            rw [he]
            have hx4 : xs.length ≤ 140737488355328 := by rw [hxs]; have := refW_le r r.vars.length 0 l0; have := (ruleD_parts HR0.out).2.1; omega
            rw [hlw] at HL4 ⊢
            clear hxs hl0n hl0 hlw he hs ha
            go_wp2_with fail
            refine wp_region_qb (by kernel_rfl) (by kernel_rfl) ?_
            repeat go_big_quiet_step ((with_reducible exact Gives.quiet (HSQ.out _ _)))
            refine wpQuiet_nil ?_
            intro w5 hb5
            have z5 : w.heap.size < w5.heap.size := by have := hb5.size; omega
            have k5 := heap_later K4.out hb5 z4
            have HS5 : Hid (∀ V, Below w5.heap.size w5 V → V.cell? ⟨w.heap.size, 0, none⟩ = some (.slice da p.doms.length dc) ∧ V.cell? ⟨w.heap.size, 1, none⟩ = some (.slice (some ⟨rb, ro, none⟩) p.rules.length rc) ∧ V.cell? ⟨rb, ro + k * 4, none⟩ = some (.int .i64 r.kind) ∧ V.cell? ⟨rb, ro + k * 4 + 1, none⟩ = some (.slice va r.vars.length vc) ∧ V.cell? ⟨rb, ro + k * 4 + 2, none⟩ = some (.slice na r.nums.length nc) ∧ V.cell? ⟨rb, ro + k * 4 + 3, none⟩ = some (.int .i64 r.n)) := Lib.hid fun V hV => by
              have e0 := heap_later k5 hV z5
              have hbV := hb5.trans (hV.mono hb5.size)
              refine ⟨?_, ?_, ?_, ?_, ?_, ?_⟩
              · rw [cell_of_row _ _ _ _ _ _ e0]; rfl
              · rw [cell_of_row _ _ _ _ _ _ e0]; rfl
              · exact (hbV.cell zr).trans q0
              · exact (hbV.cell zr).trans q1
              · exact (hbV.cell zr).trans q2
              · exact (hbV.cell zr).trans q3
            have HB5 := Lib.hid hb5; have HBW := Lib.hid (HB4.out.trans (hb5.mono HB4.out.size))
            have HL5 := Lib.hid (own_ck HL4.out (CK.below hb5))
            have z50 : 0 < w5.heap.size := by omega
            have z45 := hb5.size
            have hwk : ∀ V, Below w5.heap.size w5 V → Gives Tryd.prog 10 #[] V (.bool true) := fun V hV => works_any V ((HT.out.below HBW.out hw0).below hV z50) (by have := hV.size; omega)
            have HWK := Lib.hid hwk
            clear k5 hb5 hwk q0 q1 q2 q3 c0 c1 HSQ HL4 HW4
            go_wp2_with fail
            apply wp_mid (R := fun (_ : Option Addr) (_ _ : Nat) W' => Below w5.heap.size w5 W')
            case h =>
              refine wp_region_held_drew (S := fun V => V.cell? ⟨w.heap.size, 0, none⟩ = some (.slice da p.doms.length dc) ∧ V.cell? ⟨w.heap.size, 1, none⟩ = some (.slice (some ⟨rb, ro, none⟩) p.rules.length rc) ∧ V.cell? ⟨rb, ro + k * 4, none⟩ = some (.int .i64 r.kind) ∧ V.cell? ⟨rb, ro + k * 4 + 1, none⟩ = some (.slice va r.vars.length vc) ∧ V.cell? ⟨rb, ro + k * 4 + 2, none⟩ = some (.slice na r.nums.length nc) ∧ V.cell? ⟨rb, ro + k * 4 + 3, none⟩ = some (.int .i64 r.n)) (by kernel_rfl) (HS5.out _ (Below.drewn (Below.refl _ _))) (fun hHeld => ?_)
              change wpAnyH _ _ supLOps _ _ _ _ _ _
              refine abs_anyHS (fun V => Below w5.heap.size w5 V) (Below.drewn (Below.refl _ _)) hHeld ?_
              clear hHeld
              rintro V hbV hHeld
              have HBV := Lib.hid hbV
              clear hbV
              refine wpAnyH_take (i := 0) (oi := { dst := some 100, op := Op.move (Operand.tmp 11), type := 28, pos := "law.go:55", after := #[], guard := none }) (v := ?_) rfl (by kernel_rfl) (by kernel_rfl) (by kernel_rfl) (fun _ _ _ h => h) (Or.inl ⟨by kernel_rfl, ?_⟩) hHeld ?_
              rotate_left
              · intro w hSw
                obtain ⟨hs0, hs1, hs2, hs3, hs4, hs5⟩ := hSw
                go_simp
                try with_reducible rfl
              try simp only [Act.put, List.setIfInBounds_toArray, List.set_cons_zero, List.set_cons_succ]
              refine wpAnyH_take (i := 1) (oi := { dst := some 101, op := Op.binOp BinOp.eql 28 (Operand.tmp 100) (Operand.const (Value.int IntKind.i64 0)) 28, type := 4, pos := "law.go:55", after := #[{ on := 0, ground := Ground.data }], guard := none }) (v := ?_) rfl (by kernel_rfl) (by kernel_rfl) (by kernel_rfl) (fun _ _ _ h => h) (Or.inl ⟨by kernel_rfl, ?_⟩) hHeld ?_
              rotate_left
              · intro w hSw
                obtain ⟨hs0, hs1, hs2, hs3, hs4, hs5⟩ := hSw
                go_simp
                try with_reducible rfl
              try simp only [Act.put, List.setIfInBounds_toArray, List.set_cons_zero, List.set_cons_succ]
              refine wpAnyH_take (i := 2) (oi := { dst := some 102, op := Op.move (Operand.tmp 101), type := 4, pos := "law.go:55", after := #[{ on := 1, ground := Ground.data }], guard := none }) (v := ?_) rfl (by kernel_rfl) (by kernel_rfl) (by kernel_rfl) (fun _ _ _ h => h) (Or.inl ⟨by kernel_rfl, ?_⟩) hHeld ?_
              rotate_left
              · intro w hSw
                obtain ⟨hs0, hs1, hs2, hs3, hs4, hs5⟩ := hSw
                go_simp
                try with_reducible rfl
              try simp only [Act.put, List.setIfInBounds_toArray, List.set_cons_zero, List.set_cons_succ]
              refine wpAnyH_take (i := 3) (oi := { dst := some 103, op := Op.move (Operand.tmp 10), type := 30, pos := "law.go:55", after := #[{ on := 2, ground := Ground.guard }], guard := some (2, true) }) (v := ?_) rfl (by kernel_rfl) (by kernel_rfl) (by kernel_rfl) (fun _ _ _ h => h) (Or.inl ⟨by kernel_rfl, ?_⟩) hHeld ?_
              rotate_left
              · intro w hSw
                obtain ⟨hs0, hs1, hs2, hs3, hs4, hs5⟩ := hSw
                go_simp
                try with_reducible rfl
              try simp only [Act.put, List.setIfInBounds_toArray, List.set_cons_zero, List.set_cons_succ]
              refine wpAnyH_take (i := 4) (oi := { dst := some 104, op := Op.fieldAddr 25 (Operand.tmp 4) 1, type := 0, pos := "law.go:55", after := #[{ on := 2, ground := Ground.guard }], guard := some (2, true) }) (v := ?_) rfl (by kernel_rfl) (by kernel_rfl) (by kernel_rfl) (fun _ _ _ h => h) (Or.inl ⟨by kernel_rfl, ?_⟩) hHeld ?_
              rotate_left
              · intro w hSw
                obtain ⟨hs0, hs1, hs2, hs3, hs4, hs5⟩ := hSw
                go_simp
                try with_reducible rfl
              try simp only [Act.put, List.setIfInBounds_toArray, List.set_cons_zero, List.set_cons_succ]
              refine wpAnyH_take (i := 5) (oi := { dst := some 105, op := Op.load 23 (Operand.tmp 104), type := 23, pos := "law.go:55", after := #[{ on := 4, ground := Ground.data }, { on := 2, ground := Ground.guard }], guard := some (2, true) }) (v := ?_) rfl (by kernel_rfl) (by kernel_rfl) (by kernel_rfl) (fun _ _ _ h => h) (Or.inl ⟨by kernel_rfl, ?_⟩) hHeld ?_
              rotate_left
              · intro w hSw
                obtain ⟨hs0, hs1, hs2, hs3, hs4, hs5⟩ := hSw
                go_simp
                try with_reducible rfl
              try simp only [Act.put, List.setIfInBounds_toArray, List.set_cons_zero, List.set_cons_succ]
              refine wpAnyH_take (i := 6) (oi := { dst := some 106, op := Op.move (Operand.tmp 1), type := 3, pos := "law.go:55", after := #[{ on := 2, ground := Ground.guard }], guard := some (2, true) }) (v := ?_) rfl (by kernel_rfl) (by kernel_rfl) (by kernel_rfl) (fun _ _ _ h => h) (Or.inl ⟨by kernel_rfl, ?_⟩) hHeld ?_
              rotate_left
              · intro w hSw
                obtain ⟨hs0, hs1, hs2, hs3, hs4, hs5⟩ := hSw
                go_simp
                try with_reducible rfl
              try simp only [Act.put, List.setIfInBounds_toArray, List.set_cons_zero, List.set_cons_succ]
              refine wpAnyH_take (i := 7) (oi := { dst := some 107, op := Op.indexAddr 23 (Operand.tmp 105) (Operand.tmp 106), type := 0, pos := "law.go:55", after := #[{ on := 5, ground := Ground.data }, { on := 6, ground := Ground.data }, { on := 2, ground := Ground.guard }], guard := some (2, true) }) (v := ?_) rfl (by kernel_rfl) (by kernel_rfl) (by kernel_rfl) (fun _ _ _ h => h) (Or.inl ⟨by kernel_rfl, ?_⟩) hHeld ?_
              rotate_left
              · intro w hSw
                obtain ⟨hs0, hs1, hs2, hs3, hs4, hs5⟩ := hSw
                go_simp
                try with_reducible rfl
              try simp only [Act.put, List.setIfInBounds_toArray, List.set_cons_zero, List.set_cons_succ]
              refine wpAnyH_take (i := 8) (oi := { dst := some 108, op := Op.load 35 (Operand.tmp 107), type := 35, pos := "law.go:55", after := #[{ on := 7, ground := Ground.data }, { on := 2, ground := Ground.guard }], guard := some (2, true) }) (v := ?_) rfl (by kernel_rfl) (by kernel_rfl) (by kernel_rfl) (fun _ _ _ h => h) (Or.inl ⟨by kernel_rfl, ?_⟩) hHeld ?_
              rotate_left
              · intro w hSw
                obtain ⟨hs0, hs1, hs2, hs3, hs4, hs5⟩ := hSw
                go_simp
                try with_reducible rfl
              try simp only [Act.put, List.setIfInBounds_toArray, List.set_cons_zero, List.set_cons_succ]
              refine wpAnyH_take (i := 9) (oi := { dst := some 109, op := Op.fieldAddr 25 (Operand.tmp 4) 0, type := 0, pos := "law.go:55", after := #[{ on := 2, ground := Ground.guard }], guard := some (2, true) }) (v := ?_) rfl (by kernel_rfl) (by kernel_rfl) (by kernel_rfl) (fun _ _ _ h => h) (Or.inl ⟨by kernel_rfl, ?_⟩) hHeld ?_
              rotate_left
              · intro w hSw
                obtain ⟨hs0, hs1, hs2, hs3, hs4, hs5⟩ := hSw
                go_simp
                try with_reducible rfl
              try simp only [Act.put, List.setIfInBounds_toArray, List.set_cons_zero, List.set_cons_succ]
              refine wpAnyH_take (i := 10) (oi := { dst := some 110, op := Op.load 22 (Operand.tmp 109), type := 22, pos := "law.go:55", after := #[{ on := 9, ground := Ground.data }, { on := 2, ground := Ground.guard }], guard := some (2, true) }) (v := ?_) rfl (by kernel_rfl) (by kernel_rfl) (by kernel_rfl) (fun _ _ _ h => h) (Or.inl ⟨by kernel_rfl, ?_⟩) hHeld ?_
              rotate_left
              · intro w hSw
                obtain ⟨hs0, hs1, hs2, hs3, hs4, hs5⟩ := hSw
                go_simp
                try with_reducible rfl
              try simp only [Act.put, List.setIfInBounds_toArray, List.set_cons_zero, List.set_cons_succ]
              refine wpAnyH_take (i := 11) (oi := { dst := some 111, op := Op.move (Operand.tmp 2), type := 3, pos := "law.go:55", after := #[{ on := 2, ground := Ground.guard }], guard := some (2, true) }) (v := ?_) rfl (by kernel_rfl) (by kernel_rfl) (by kernel_rfl) (fun _ _ _ h => h) (Or.inl ⟨by kernel_rfl, ?_⟩) hHeld ?_
              rotate_left
              · intro w hSw
                obtain ⟨hs0, hs1, hs2, hs3, hs4, hs5⟩ := hSw
                go_simp
                try with_reducible rfl
              try simp only [Act.put, List.setIfInBounds_toArray, List.set_cons_zero, List.set_cons_succ]
              refine wpAnyH_take (i := 12) (oi := { dst := some 112, op := Op.move (Operand.tmp 3), type := 3, pos := "law.go:55", after := #[{ on := 2, ground := Ground.guard }], guard := some (2, true) }) (v := ?_) rfl (by kernel_rfl) (by kernel_rfl) (by kernel_rfl) (fun _ _ _ h => h) (Or.inl ⟨by kernel_rfl, ?_⟩) hHeld ?_
              rotate_left
              · intro w hSw
                obtain ⟨hs0, hs1, hs2, hs3, hs4, hs5⟩ := hSw
                go_simp
                try with_reducible rfl
              try simp only [Act.put, List.setIfInBounds_toArray, List.set_cons_zero, List.set_cons_succ]
              refine wpAnyH_ready (rs := [13]) (by kernel_rfl) (by simp) ?_
              refine AllReadyH.cons (o := { dst := some 113, op := Op.call { callee := Callee.value (Operand.func 16), args := #[Operand.tmp 108, Operand.tmp 110, Operand.tmp 111, Operand.tmp 112], argTypes := #[35, 22, 3, 3] }, type := 30, pos := "law.go:55", after := #[{ on := 8, ground := Ground.data }, { on := 10, ground := Ground.data }, { on := 11, ground := Ground.data }, { on := 12, ground := Ground.data }, { on := 2, ground := Ground.chain }, { on := 2, ground := Ground.guard }], guard := some (2, true) }) rfl (fun K hK => ?_) AllReadyH.nil
              go_simp
              refine (HWT.out V (HB5.out.trans (HBV.out.mono z45))).mono ?_
              rintro e1 V1 ⟨yv, rfl, hown, hb1⟩
              obtain ⟨ya, yc, rfl⟩ := own_form hown
              have hbz := HBV.out.trans (hb1.mono HBV.out.size)
              have HYO := Lib.hid hown
              clear hown hb1 HBV
              go_wp2_with fail
              refine hK.out _ _ (HS5.out _ hbz) (fun hHeld => ?_)
              clear hK K
              try simp only [Act.put, List.setIfInBounds_toArray, List.set_cons_zero, List.set_cons_succ]
              have HBV := Lib.hid hbz
              clear hbz
              refine wpAnyH_ready (rs := [14]) (by kernel_rfl) (by simp) ?_
              refine AllReadyH.cons (o := { dst := some 114, op := Op.call { callee := Callee.value (Operand.func 15), args := #[Operand.tmp 103, Operand.tmp 113], argTypes := #[30, 30] }, type := 4, pos := "law.go:55", after := #[{ on := 3, ground := Ground.data }, { on := 13, ground := Ground.data }, { on := 13, ground := Ground.chain }, { on := 2, ground := Ground.guard }], guard := some (2, true) }) rfl (fun K hK => ?_) AllReadyH.nil
              go_simp
              have hi1 := ownsRow_ints (own_ck HL5.out (CK.below HBV.out)) hx4 rfl
              have hi2 := ownsRow_ints HYO.out hx4 rfl
              refine (sameInts_any xs xs _ _ V1 hi1 hi2 (Nat.le_refl _)).mono ?_
              clear hi1 hi2 HYO
              rintro e2 V2 ⟨rfl, hb2⟩
              have hbz := HBV.out.trans (hb2.mono HBV.out.size)
              clear hb2 HBV
              rw [show sameI xs xs = true by unfold sameI; simp]
              go_wp2_with fail
              refine hK.out _ _ (HS5.out _ hbz) (fun hHeld => ?_)
              clear hK K
              try simp only [Act.put, List.setIfInBounds_toArray, List.set_cons_zero, List.set_cons_succ]
              have HBV := Lib.hid hbz
              clear hbz
              refine wpAnyH_take (i := 15) (oi := { dst := some 115, op := Op.pick (Operand.tmp 102) (Operand.tmp 114) (Operand.const (Value.bool false)), type := 4, pos := "law.go:55", after := #[{ on := 2, ground := Ground.data }, { on := 14, ground := Ground.data }], guard := none }) (v := ?_) rfl (by kernel_rfl) (by kernel_rfl) (by kernel_rfl) (fun _ _ _ h => h) (Or.inl ⟨by kernel_rfl, ?_⟩) hHeld ?_
              rotate_left
              · intro w hSw
                obtain ⟨hs0, hs1, hs2, hs3, hs4, hs5⟩ := hSw
                go_simp
                try with_reducible rfl
              try simp only [Act.put, List.setIfInBounds_toArray, List.set_cons_zero, List.set_cons_succ]
              refine wpAnyH_take (i := 16) (oi := { dst := some 116, op := Op.move (Operand.tmp 115), type := 4, pos := "law.go:55", after := #[{ on := 15, ground := Ground.data }, { on := 14, ground := Ground.chain }], guard := none }) (v := ?_) rfl (by kernel_rfl) (by kernel_rfl) (by kernel_rfl) (fun _ _ _ h => h) (Or.inl ⟨by kernel_rfl, ?_⟩) hHeld ?_
              rotate_left
              · intro w hSw
                obtain ⟨hs0, hs1, hs2, hs3, hs4, hs5⟩ := hSw
                go_simp
                try with_reducible rfl
              try simp only [Act.put, List.setIfInBounds_toArray, List.set_cons_zero, List.set_cons_succ]
              refine wpAnyH_ready (rs := [17]) (by kernel_rfl) (by simp) ?_
              refine AllReadyH.cons (o := { dst := some 117, op := Op.call { callee := Callee.value (Operand.func 10), args := #[], argTypes := #[] }, type := 4, pos := "law.go:55", after := #[{ on := 16, ground := Ground.chain }, { on := 16, ground := Ground.guard }], guard := some (16, true) }) rfl (fun K hK => ?_) AllReadyH.nil
              go_simp
              refine (HWK.out V2 HBV.out).mono ?_
              rintro e3 V3 ⟨rfl, hb3⟩
              have hbz := HBV.out.trans (hb3.mono HBV.out.size)
              clear hb3 HBV
              go_wp2_with fail
              refine hK.out _ _ (HS5.out _ hbz) (fun hHeld => ?_)
              clear hK K
              try simp only [Act.put, List.setIfInBounds_toArray, List.set_cons_zero, List.set_cons_succ]
              have HBV := Lib.hid hbz
              clear hbz
              refine wpAnyH_take (i := 18) (oi := { dst := some 118, op := Op.pick (Operand.tmp 116) (Operand.tmp 117) (Operand.const (Value.bool false)), type := 4, pos := "law.go:55", after := #[{ on := 16, ground := Ground.data }, { on := 17, ground := Ground.data }], guard := none }) (v := ?_) rfl (by kernel_rfl) (by kernel_rfl) (by kernel_rfl) (fun _ _ _ h => h) (Or.inl ⟨by kernel_rfl, ?_⟩) hHeld ?_
              rotate_left
              · intro w hSw
                obtain ⟨hs0, hs1, hs2, hs3, hs4, hs5⟩ := hSw
                go_simp
                try with_reducible rfl
              try simp only [Act.put, List.setIfInBounds_toArray, List.set_cons_zero, List.set_cons_succ]
              refine wpAnyH_take (i := 19) (oi := { dst := some 8, op := Op.assign (Operand.tmp 118), type := 4, pos := "law.go:55", after := #[{ on := 18, ground := Ground.data }, { on := 17, ground := Ground.chain }, { on := 0, ground := Ground.phase }, { on := 1, ground := Ground.phase }, { on := 2, ground := Ground.phase }, { on := 3, ground := Ground.phase }, { on := 4, ground := Ground.phase }, { on := 5, ground := Ground.phase }, { on := 6, ground := Ground.phase }, { on := 7, ground := Ground.phase }, { on := 8, ground := Ground.phase }, { on := 9, ground := Ground.phase }, { on := 10, ground := Ground.phase }, { on := 11, ground := Ground.phase }, { on := 12, ground := Ground.phase }, { on := 13, ground := Ground.phase }, { on := 14, ground := Ground.phase }, { on := 15, ground := Ground.phase }, { on := 16, ground := Ground.phase }, { on := 17, ground := Ground.phase }, { on := 18, ground := Ground.phase }], guard := none }) (v := ?_) rfl (by kernel_rfl) (by kernel_rfl) (by kernel_rfl) (fun _ _ _ h => h) (Or.inl ⟨by kernel_rfl, ?_⟩) hHeld ?_
              rotate_left
              · intro w hSw
                obtain ⟨hs0, hs1, hs2, hs3, hs4, hs5⟩ := hSw
                go_simp
                try with_reducible rfl
              try simp only [Act.put, List.setIfInBounds_toArray, List.set_cons_zero, List.set_cons_succ]
              refine wpAnyH_done (by kernel_rfl) ?_ _
              dsimp only [onlyN]
              obtain ⟨zz, _⟩ : ∃ z : Nat, z = 0 := ⟨0, rfl⟩
              exact ⟨ya, yc, zz, rfl, HBV.out⟩
            case hq =>
              rintro x y z W' hb
              have HF := Lib.hid (HBW.out.trans (hb.mono HBW.out.size))
              clear hb
              go_wp2
              go_ret
              exact ⟨rfl, HF.out⟩
end Go.Proofs.YtdmmegmkdhinjaaDoor
