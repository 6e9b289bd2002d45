/- The reference's with, its result in a row of the call's own. -/
import Derived.Test.YtilbbnjfaoldoaaDoorPlainD
namespace Go.Proofs.YtilbbnjfaoldoaaDoor
open Go Go.RowKit
attribute [local go_sem] cell_grow u64_sAnd u64_sOr u64_sDiff sDiff_all zeqI zneI sAnd_bit_zero sAnd_bit_zeroN sAnd_bit_nonzero rowOf_grow rowOk_grow rowOf_alloc rowOk_alloc

set_option maxRecDepth 100000 in
set_option maxHeartbeats 1000000 in
theorem refWithOwn_any (b : List Bnd) (v e : Nat) (is : Bool) (bv : Value) (w : World) {B : Nat} (hb : Bnds w B bv b) (hB : B ≤ w.heap.size) (hl : b.length ≤ 1000) (hv : v < b.length) (he : e < 64) (hu : U64s b) :
    Calls Tryd.prog 79 #[bv, .int .i64 v, .int .i64 e, .bool is] w fun r w' => ∃ v', r = .returned v' ∧ w'.ownsRow w.heap.size 67 2 v' b.length (bCells (withB b v e is)) ∧ Below w.heap.size w w' := by
  obtain ⟨_, a, cap, rfl, hc, _, hr⟩ := hb.mono hB
  obtain ⟨bb, off, rfl, hbB, hcell⟩ := hr (by omega)
  obtain ⟨i0, hi, hz0, hz1, hz2⟩ := info_parts Tryd.info67
  have HC := Lib.hid hcell; have HU := Lib.hid hu
  clear hr hcell hb hu
  go_enter Tryd.func79, Tryd.ntmps79
  go_wp2_with (at_builtin; refine wpList_append_own _ rfl _ _ 22 rfl w.heap.size 67 i0 (.agg #[.int .u64 0, .int .u64 0]) 2 16 Tryd.underlying22 hi hz0 hz1 hz2 rfl (by decide) _ 0 [] rfl (World.ownsRow_nil _ _ _ _) ⟨bb, off, none⟩ b.length cap (bCells b) rfl (bCells_length b) ?c1 ?c2 ?c3 ?c4 ?c5 ?_)
  case c1 =>
    intro j u hj
    have hjl : j < b.length * 2 := by have := (List.getElem?_eq_some_iff.1 hj).1; rwa [bCells_length] at this
    rw [bCells_get b j hjl] at hj
    cases hj
    rw [Addr.add_lit]; exact HC.out j hjl
  case c2 => exact bCells_one b
  case c3 => unfold maxLen; omega
  case c4 => omega
  case c5 => exact Nat.le_refl _
  intro v' w1 hown hgrow _
  have hb1 := (Below.refl w.heap.size w).grown hgrow (Nat.le_refl _) (fun q hq => by simp [Value.ownBlock] at hq)
  try simp only [Nat.zero_add, List.nil_append] at hown
  obtain ⟨g, cp, cur, rfl, hbg, hg, hcp1, hcp2, hcur⟩ := own_some hown (by omega)
  have k0 : w1.cell? ⟨g, v * 2, none⟩ = some (.int .u64 ((bget b v).inn : Nat)) := by rw [cell_of_row _ _ _ _ _ _ hg, hcur _ (by omega), bCells_get _ _ (by omega), bcellAt_inn]
  have k1 : w1.cell? ⟨g, v * 2 + 1, none⟩ = some (.int .u64 ((bget b v).can : Nat)) := by rw [cell_of_row _ _ _ _ _ _ hg, hcur _ (by omega), bCells_get _ _ (by omega), bcellAt_can]
  have zg : g < w1.heap.size := (Array.getElem?_eq_some_iff.1 hg).1
  have hue := (HU.out.get v)
  have hu1 := hue.1; have hu2 := hue.2
  have hub := U64.bit he
  have HO := Lib.hid (fun (d : Nat) (os : Array Obj) => Gives.of_same (refOne_any e (Go.Sort.grow (redrawn w1 d) os) he))
  have HOW := Lib.hid hown; have HG := Lib.hid hg; have HB1 := Lib.hid hb1
  clear hown hgrow hg hb1 hcur hue
  cases is
  case false =>
    go_wp2_with fail
    refine wp_region_qbt 12 (by kernel_rfl) (by kernel_rfl) ?_
    simp only [List.take_succ_cons, List.take_zero, List.drop_succ_cons, List.drop_zero]
    repeat go_big_quiet_step ((with_reducible exact Gives.quiet (HO.out _ _)))
    refine wpQuiet_nil ?_
    intro w2 hb2
    have g2 := heap_later HG.out hb2 zg
    have q1 : w2.cell? ⟨g, v * 2 + 1, none⟩ = some (.int .u64 ((bget b v).can : Nat)) := (hb2.cell (p := ⟨g, v * 2 + 1, none⟩) zg).trans k1
    have q2 : w2.frozen? ⟨g, v * 2 + 1, none⟩ = false := by simp [World.frozen?, g2]
    have hs := (own_ck HOW.out (CK.below hb2)).stored (v * 2 + 1) (.int .u64 ((sDiff (bget b v).can (bitN e) : Nat) : Int))
    rw [bCells_set_can _ _ _ hv] at hs
    have HS := Lib.hid hs.1
    have HB2 := Lib.hid ((HB1.out.trans (hb2.mono HB1.out.size)).setCell (p := ⟨g, v * 2 + 1, none⟩) hbg (.int .u64 ((sDiff (bget b v).can (bitN e) : Nat) : Int)))
    clear hs hb2 g2 k0 k1
    go_wp2
    go_ret
    exact ⟨_, rfl, HS.out, HB2.out⟩
  case true =>
    go_wp2_with fail
    refine wp_region_qbt 12 (by kernel_rfl) (by kernel_rfl) ?_
    simp only [List.take_succ_cons, List.take_zero, List.drop_succ_cons, List.drop_zero]
    repeat go_big_quiet_step ((with_reducible exact Gives.quiet (HO.out _ _)))
    refine wpQuiet_nil ?_
    intro w2 hb2
    have g2 := heap_later HG.out hb2 zg
    have q1 : w2.cell? ⟨g, v * 2, none⟩ = some (.int .u64 ((bget b v).inn : Nat)) := (hb2.cell (p := ⟨g, v * 2, none⟩) zg).trans k0
    have q2 : w2.frozen? ⟨g, v * 2, none⟩ = false := by simp [World.frozen?, g2]
    have hs := (own_ck HOW.out (CK.below hb2)).stored (v * 2) (.int .u64 ((sOr (bget b v).inn (bitN e) : Nat) : Int))
    rw [bCells_set_inn _ _ _ hv] at hs
    have HS := Lib.hid hs.1
    have HB2 := Lib.hid ((HB1.out.trans (hb2.mono HB1.out.size)).setCell (p := ⟨g, v * 2, none⟩) hbg (.int .u64 ((sOr (bget b v).inn (bitN e) : Nat) : Int)))
    clear hs hb2 g2 k0 k1
    go_wp2
    go_ret
    exact ⟨_, rfl, HS.out, HB2.out⟩
end Go.Proofs.YtilbbnjfaoldoaaDoor
