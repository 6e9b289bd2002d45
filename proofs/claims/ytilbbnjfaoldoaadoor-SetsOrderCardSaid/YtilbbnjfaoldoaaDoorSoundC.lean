/- drawn: sets by numbers. -/
import Derived.Test.YtilbbnjfaoldoaaDoorSoundB
namespace Go.Proofs.YtilbbnjfaoldoaaDoor
open Go Go.RowKit
attribute [local go_sem] cell_grow u64_sAnd u64_sOr u64_sDiff sDiff_all zeqI zneI sAnd_bit_zero sAnd_bit_zeroN sAnd_bit_nonzero rowOf_grow rowOk_grow rowOf_alloc rowOk_alloc

def All64 (l : List Nat) : Prop := ∀ s ∈ l, U64 s
theorem All64.get {l : List Nat} (h : All64 l) (k : Nat) : U64 (nget l k) := by
  unfold nget
  by_cases hk : k < l.length
  · rw [List.getElem?_eq_getElem hk]; exact h _ (List.getElem_mem hk)
  · rw [List.getElem?_eq_none (by omega)]; show (0 : Nat) < _; decide
/-- Sets of the call's own. -/
def DrawnP (n : Nat) (w : World) (e : Ending) (w' : World) : Prop := ∃ v xs, e = .returned v ∧ xs.length = n ∧ All64 xs ∧ w'.ownsRow w.heap.size 65 1 v n (natsV xs) ∧ Below w.heap.size w w'
set_option maxRecDepth 100000 in
set_option maxHeartbeats 2000000 in
theorem drawn_any (b : List Bnd) (by_ : List Nat) (bv yv : Value) (w : World) {B : Nat} (hb : Bnds w B bv b) (hy : Us w B yv by_) (hB : B ≤ w.heap.size) (hn : b.length ≤ 1000) (hub : U64s b) (huy : All64 by_) :
    Calls Tryd.prog 44 #[bv, yv] w (DrawnP b.length w) := by
  have HBV := Lib.hid hb; have HYV := Lib.hid hy; have HUB := Lib.hid hub; have HUY := Lib.hid huy
  have hyl := hy.1
  obtain ⟨ba, bc, rfl⟩ := hb.slice
  obtain ⟨ya, yc, rfl⟩ := hy.slice
  obtain ⟨i0, hin, hz0, hz1, hz2⟩ := info_parts Tryd.infoU
  clear hb hy hub huy
  go_enter Tryd.func44, Tryd.ntmps44
  go_wp2_with fail
  go_loopw [5, 11] (fun v kv wr => ∃ (k : Nat) (xs : List Nat), k ≤ b.length ∧ kv = .int .i64 k ∧ xs.length = k ∧ All64 xs ∧ wr.ownsRow w.heap.size 65 1 v k (natsV xs) ∧ Below w.heap.size w wr) (fun _ kv _ => b.length - (intOf kv).toNat)
  case atStart => exact ⟨0, [], Nat.zero_le _, rfl, rfl, (by intro s h; cases h), World.ownsRow_nil _ _ _ _, Below.refl _ _⟩
  case round =>
    obtain ⟨k, xs, hk, rfl, hxl, hxs, hown, hbw⟩ := hrel
    have HXS := Lib.hid hxs; have HOW := Lib.hid hown; have HB := Lib.hid hbw; have HXL := Lib.hid hxl
    by_cases hlt : k < b.length
    · obtain ⟨_, a1, c1, hae, _, _, hr1⟩ := HBV.out.below hbw hB
      cases hae
      obtain ⟨b1, o1, rfl, hb1, hc1⟩ := hr1 (by omega)
      have q0 : wr.cell? ⟨b1, o1 + k * 2, none⟩ = some (.int .u64 ((bget b k).inn : Nat)) := by rw [hc1 _ (by omega), bcellAt_inn]
      have q1 : wr.cell? ⟨b1, o1 + k * 2 + 1, none⟩ = some (.int .u64 ((bget b k).can : Nat)) := by rw [← bcellAt_can]; exact hc1 (k * 2 + 1) (by omega)
      have z1 : b1 < wr.heap.size := by have := hbw.size; omega
      have hu1 := (HUB.out.get k).1
      have hu2 := (HUB.out.get k).2
      obtain ⟨x, hx⟩ : ∃ x, x = (bget b k).inn := ⟨_, rfl⟩
      obtain ⟨y, hy⟩ : ∃ y, y = (bget b k).can := ⟨_, rfl⟩
      rw [← hx] at q0 hu1
      rw [← hy] at q1 hu2
      clear hr1 hc1 hx hy hxs hown hxl
      go_upto_region 5 with fail
      refine abs_wp (fun Z => Z.cell? ⟨wr.heap.size, 0, none⟩ = some (.int .u64 (x : Nat)) ∧ Z.cell? ⟨wr.heap.size, 1, none⟩ = some (.int .u64 (y : Nat)) ∧ Below wr.heap.size wr Z ∧ wr.heap.size < Z.heap.size)
        ⟨by rw [cell_of_row _ _ _ _ _ _ (heap_new0 wr _)]; rfl, by rw [cell_of_row _ _ _ _ _ _ (heap_new0 wr _)]; rfl, Below.new1 _ _, by simp⟩ ?_
      clear q0 q1 hbw
      rintro W ⟨q0, q1, hbW, zW⟩
      have HBW := Lib.hid (HB.out.trans (hbW.mono HB.out.size))
      have HOW2 := Lib.hid (own_ck HOW.out (CK.below hbW))
      have hyW := HYV.out.below HBW.out hB
      clear hbW
      by_cases hy0 : 0 < by_.length
      · obtain ⟨_, a2, c2, hae, _, _, hr2⟩ := hyW
        cases hae
        obtain ⟨b2, o2, rfl, hb2, hc2⟩ := hr2 hy0
        have hm : k % by_.length < by_.length := Nat.mod_lt _ hy0
        have q2 : W.cell? ⟨b2, o2 + k % by_.length, none⟩ = some (.int .u64 ((nget by_ (k % by_.length) : Nat) : Int)) := hc2 _ (by omega)
        have hu3 := HUY.out.get (k % by_.length)
        have e1 : (0 : Int) < ((by_.length : Nat) : Int) := by omega
        have e2 : ¬ ((by_.length : Nat) : Int) = 0 := by omega
        have e3 : ((k : Nat) : Int) % ((by_.length : Nat) : Int) = ((k % by_.length : Nat) : Int) := rfl
        obtain ⟨z, hz⟩ : ∃ z, z = nget by_ (k % by_.length) := ⟨_, rfl⟩
        rw [← hz] at q2 hu3
        obtain ⟨m, hmm⟩ : ∃ m, m = k % by_.length := ⟨_, rfl⟩
        rw [← hmm] at q2 hm e3
        have zb : b2 < W.heap.size := by have := HBW.out.size; omega
        clear hr2 hc2 hz hmm
        have hua := hu2.and hu3
        have huf : U64 (sOr x (sAnd y z)) := hu1.or hua
        have HUF := Lib.hid huf
        have hnw := Below.new1 W (.cells #[.int .u64 ((sOr x (sAnd y z) : Nat) : Int)] 65)
        have HNW := Lib.hid hnw
        clear hnw
        go_wp2_with (at_builtin; refine wpList_append_own _ rfl _ _ 26 rfl w.heap.size 65 i0 (.int .u64 0) 1 8 Tryd.underlying26 hin hz0 hz1 hz2 rfl (by decide) _ _ _ rfl (HOW2.out.alloc _) ⟨W.heap.size, 0, none⟩ 1 1 (natsV [sOr x (sAnd y z)]) rfl rfl ?c1 ?c2 ?c3 ?c4 ?c5 ?_)
        case c1 =>
          intro q u hq
          match q, hq with
          | 0, hq => cases hq; rw [Addr.add_lit, Nat.zero_add, cell_of_row _ _ _ _ _ _ (heap_new0 W _)]; rfl
        case c2 => exact natsV_one _
        case c3 => unfold maxLen; omega
        case c4 => omega
        case c5 => have := HBW.out.size; simp; omega
        intro v' w3 hown3 hgrow3 _
        have hb3 := (HBW.out.trans (HNW.out.mono HBW.out.size)).grown hgrow3 (by have := HBW.out.size; simp; omega) (fun q hq => (HOW2.out.lt q hq).1)
        rw [natsV_append] at hown3
        have HO3 := Lib.hid hown3; have HB3 := Lib.hid hb3
        have HXN : Hid (All64 (xs ++ [sOr x (sAnd y z)])) := Lib.hid fun s hs => by
          rcases List.mem_append.1 hs with h | h
          · exact HXS.out s h
          · rw [List.mem_singleton.1 h]; exact HUF.out
        clear hown3 hgrow3 hb3
        go_wp2
        go_roundw
        case rel => exact ⟨k + 1, xs ++ [sOr x (sAnd y z)], by omega, by go_num, by rw [List.length_append, HXL.out]; rfl, HXN.out, HO3.out, HB3.out⟩
        case measure => simp [intOf]; omega
      · have hz0' : U64 0 := by show (0 : Nat) < _; decide
        have e1 : ¬ (0 : Int) < ((by_.length : Nat) : Int) := by omega
        have hua := hu2.and hz0'
        have huf : U64 (sOr x (sAnd y 0)) := hu1.or hua
        have HUF := Lib.hid huf
        go_upto_region 8 with fail
        clear e1
        have e2 : bits .and .u64 ((y : Nat) : Int) 0 = ((sAnd y 0 : Nat) : Int) := u64_sAnd (b := 0) hu2 hz0'
        have hnw := Below.new1 W (.cells #[.int .u64 ((sOr x (sAnd y 0) : Nat) : Int)] 65)
        have HNW := Lib.hid hnw
        clear hnw
        go_wp2_with (at_builtin; refine wpList_append_own _ rfl _ _ 26 rfl w.heap.size 65 i0 (.int .u64 0) 1 8 Tryd.underlying26 hin hz0 hz1 hz2 rfl (by decide) _ _ _ rfl (HOW2.out.alloc _) ⟨W.heap.size, 0, none⟩ 1 1 (natsV [sOr x (sAnd y 0)]) rfl rfl ?c1 ?c2 ?c3 ?c4 ?c5 ?_)
        case c1 =>
          intro q u hq
          match q, hq with
          | 0, hq => cases hq; rw [Addr.add_lit, Nat.zero_add, cell_of_row _ _ _ _ _ _ (heap_new0 W _)]; rfl
        case c2 => exact natsV_one _
        case c3 => unfold maxLen; omega
        case c4 => omega
        case c5 => have := HBW.out.size; simp; omega
        intro v' w3 hown3 hgrow3 _
        have hb3 := (HBW.out.trans (HNW.out.mono HBW.out.size)).grown hgrow3 (by have := HBW.out.size; simp; omega) (fun q hq => (HOW2.out.lt q hq).1)
        rw [natsV_append] at hown3
        have HO3 := Lib.hid hown3; have HB3 := Lib.hid hb3
        have HXN : Hid (All64 (xs ++ [sOr x (sAnd y 0)])) := Lib.hid fun s hs => by
          rcases List.mem_append.1 hs with h | h
          · exact HXS.out s h
          · rw [List.mem_singleton.1 h]; exact HUF.out
        clear hown3 hgrow3 hb3
        go_wp2
        go_roundw
        case rel => exact ⟨k + 1, xs ++ [sOr x (sAnd y 0)], by omega, by go_num, by rw [List.length_append, HXL.out]; rfl, HXN.out, HO3.out, HB3.out⟩
        case measure => simp [intOf]; omega
    · have hk2 : k = b.length := by omega
      subst hk2
      clear hxs hown hbw
      go_wp2
      go_ret
      exact ⟨_, xs, rfl, HXL.out, HXS.out, HOW.out, HB.out⟩
end Go.Proofs.YtilbbnjfaoldoaaDoor
