/- slices.MinFunc at rows of numbers, by one place. -/
import Derived.Test.YtdmmegmkdhinjaaGreatDoorAllP
namespace Go.Proofs.YtdmmegmkdhinjaaGreatDoor
open Go Go.RowKit
attribute [local go_sem] cell_grow u64_sAnd u64_sOr u64_sDiff sDiff_all zeqI zneI sAnd_bit_zero sAnd_bit_zeroN sAnd_bit_nonzero

theorem minF_snoc (v : Nat) (l : List Int) : ∀ (ls : List (List Int)) (m : List Int), minF v m (ls ++ [l]) = if iget l v < iget (minF v m ls) v then l else minF v m ls
  | [], _ => rfl
  | x :: ls, m => by
    show minF v (if iget x v < iget m v then x else m) (ls ++ [l]) = _
    rw [minF_snoc v l ls]
    rfl
set_option maxRecDepth 100000 in
set_option maxHeartbeats 1000000 in
theorem all2_any (v : Nat) (a b : List Int) (av bv : Value) (q : Nat) (w : World) {B : Nat} (ha : Ints w B av a) (hb : Ints w B bv b) (hB : B ≤ w.heap.size) (hva : v < a.length) (hvb : v < b.length) (h1 : 0 ≤ iget a v ∧ iget a v ≤ 15) (h2 : 0 ≤ iget b v ∧ iget b v ≤ 15)
    (hq : w.heap[q]? = some (.cells #[.int .i64 (v : Nat)] 3 (0, 0))) : Gives Tryz.prog 37 #[av, bv, .pointer (some ⟨q, 0, none⟩)] w (.int .i64 (iget a v - iget b v)) := by
  obtain ⟨_, a1, c1, rfl, _, _, hr1⟩ := ha
  obtain ⟨b1, o1, rfl, hb1, hc1⟩ := hr1 (by omega)
  obtain ⟨_, a2, c2, rfl, _, _, hr2⟩ := hb
  obtain ⟨b2, o2, rfl, hb2, hc2⟩ := hr2 (by omega)
  have q0 : w.cell? ⟨q, 0, none⟩ = some (.int .i64 (v : Nat)) := by rw [cell_of_row _ _ _ _ _ _ hq]; rfl
  have x0 : w.cell? ⟨b1, o1 + v, none⟩ = some (.int .i64 (iget a v)) := hc1 v (by omega)
  have y0 : w.cell? ⟨b2, o2 + v, none⟩ = some (.int .i64 (iget b v)) := hc2 v (by omega)
  have zq : q < w.heap.size := (Array.getElem?_eq_some_iff.1 hq).1
  have zb1 : b1 < w.heap.size := by omega
  have zb2 : b2 < w.heap.size := by omega
  obtain ⟨x, hx⟩ : ∃ x, x = iget a v := ⟨_, rfl⟩
  obtain ⟨y, hy⟩ : ∃ y, y = iget b v := ⟨_, rfl⟩
  rw [← hx] at x0 h1 ⊢
  rw [← hy] at y0 h2 ⊢
  have hw : wrap64 (x - y) = x - y := by unfold wrap64; omega
  clear hr1 hr2 hc1 hc2 hq hb1 hb2 hx hy
  unfold Gives
  go_enter Tryz.func37, Tryz.ntmps37
  go_wp2_with fail
  refine wp_region_qb (by kernel_rfl) (by kernel_rfl) ?_
  repeat go_big_quiet_step (fail)
  refine wpQuiet_nil ?_
  intro w2 hb2
  have HB2 := Lib.hid hb2
  clear hb2
  go_wp2
  go_ret
  exact ⟨rfl, HB2.out⟩
set_option maxRecDepth 100000 in
set_option maxHeartbeats 2000000 in
theorem minFunc_any (ss : List (List Int)) (v n q base : Nat) (h0 : 0 < ss.length) (hsm : ss.length ≤ 1000) (hrow : ∀ i, i < ss.length → (lget ss i).length = n ∧ 0 ≤ iget (lget ss i) v ∧ iget (lget ss i) v ≤ 15) (hv : v < n) (hn : n ≤ 1000) (sv : Value) (w : World) (h : LOwn w base sv ss)
    (hq : w.heap[q]? = some (.cells #[.int .i64 (v : Nat)] 3 (0, 0))) :
    Calls Tryz.prog 36 #[sv, .func (.func 37) #[] #[.pointer (some ⟨q, 0, none⟩)]] w fun e w' => ∃ rv, e = .returned rv ∧ w'.ownsRow base 3 1 rv n (intsV (firstD v ss)) ∧ Below w.heap.size w w' := by
  obtain ⟨cs, hc, hr⟩ := h
  obtain ⟨g, cap, cur, rfl, hgb, hg, -, -, -⟩ := own_some hc h0
  have zg : g < w.heap.size := (Array.getElem?_eq_some_iff.1 hg).1
  have zq : q < w.heap.size := (Array.getElem?_eq_some_iff.1 hq).1
  have HROW : Hid (∀ i, i < ss.length → ∃ a c, cs[i]? = some (.slice a n c) ∧ w.ownsRow base 3 1 (.slice a n c) n (intsV (lget ss i))) := Lib.hid fun i hi => by
    obtain ⟨yv, e5, e6⟩ := hr i hi
    rw [(hrow i hi).1] at e6
    obtain ⟨a, c, rfl⟩ := own_form e6
    exact ⟨a, c, e5, e6⟩
  have HCELL : Hid (∀ i yv, cs[i]? = some yv → w.cell? ⟨g, i, none⟩ = some yv) := Lib.hid fun i yv e => by have := hc.cells (g := g) rfl _ _ e; rwa [Addr.add_lit, Nat.zero_add] at this
  have HR := Lib.hid hrow; have HQ := Lib.hid hq
  obtain ⟨ya, yc, e0, o0⟩ := HROW.out 0 h0
  have c0 : w.cell? ⟨g, 0, none⟩ = some (.slice ya n yc) := HCELL.out 0 _ e0
  have hlt1 : ¬ (ss.length : Int) < 1 := by omega
  have h0i : (0 : Int) < (ss.length : Int) := by omega
  have O0 := Lib.hid o0
  clear hc hr hrow hq hg e0 o0
  go_enter Tryz.func36, Tryz.ntmps36
  go_wp2_with fail
  clear hlt1 c0 h0i
  go_loopw [5, 6] (fun mv iv wr => ∃ (i m : Nat) (a : Option Addr) (c : Nat), 1 ≤ i ∧ i ≤ ss.length ∧ iv = .int .i64 i ∧ m < ss.length ∧ mv = .slice a n c ∧ w.ownsRow base 3 1 (.slice a n c) n (intsV (lget ss m)) ∧ minF v (lget ss 0) ((ss.drop 1).take (i - 1)) = lget ss m ∧ Below w.heap.size w wr) (fun _ iv _ => ss.length - (intOf iv).toNat)
  case atStart => exact ⟨1, 0, ya, yc, Nat.le_refl _, h0, rfl, h0, rfl, O0.out, by rw [Nat.sub_self, List.take_zero]; rfl, Below.refl _ _⟩
  case round =>
    obtain ⟨i, m, a, c, h1, hi, rfl, hm, rfl, how, hmin, hb⟩ := hrel
    have HB := Lib.hid hb; have HMIN := Lib.hid hmin; have HOW := Lib.hid how
    by_cases hlt : i < ss.length
    · obtain ⟨xa, xc, ei, oi⟩ := HROW.out i hlt
      have q0 : wr.cell? ⟨g, i, none⟩ = some (.slice xa n xc) := (hb.cell (p := ⟨g, i, none⟩) zg).trans (HCELL.out i _ ei)
      have zgr : g < wr.heap.size := Nat.lt_of_lt_of_le zg hb.size
      have hkr := heap_later HQ.out hb zq
      have x1 := (ownsRow_ints (own_ck oi (CK.below hb)) (by omega) (HR.out i hlt).1)
      have x2 := (ownsRow_ints (own_ck how (CK.below hb)) (by omega) (HR.out m hm).1)
      have hcmp := all2_any v (lget ss i) (lget ss m) _ _ q wr x1 x2 (Nat.le_refl _) (by rw [(HR.out i hlt).1]; exact hv) (by rw [(HR.out m hm).1]; exact hv) (HR.out i hlt).2 (HR.out m hm).2 hkr
      have HCMP := Lib.hid hcmp; have HOI := Lib.hid oi
      have hnext : minF v (lget ss 0) ((ss.drop 1).take i) = if iget (lget ss i) v < iget (lget ss m) v then lget ss i else lget ss m := by
        have e : (ss.drop 1).take i = (ss.drop 1).take (i - 1) ++ [lget ss i] := by
          have e2 : (ss.drop 1)[i - 1]'(by rw [List.length_drop]; omega) = lget ss i := by
            rw [List.getElem_drop]
            unfold lget
            rw [List.getElem?_eq_getElem hlt]
            simp [show 1 + (i - 1) = i by omega]
          have e3 := List.take_succ_eq_append_getElem (l := ss.drop 1) (i := i - 1) (by rw [List.length_drop]; omega)
          rw [show i - 1 + 1 = i by omega, e2] at e3
          exact e3
        rw [e, minF_snoc, hmin]
      have HNEXT := Lib.hid hnext
      clear hb hmin how ei oi hkr x1 x2 hcmp hnext
      go_wp2_with fail
      refine HCMP.out.mono ?_
      rintro e w2 ⟨rfl, hb2⟩
      have HB2 := Lib.hid (HB.out.trans (hb2.mono HB.out.size))
      have q2 : w2.cell? ⟨g, i, none⟩ = some (.slice xa n xc) := (hb2.cell (p := ⟨g, i, none⟩) zgr).trans q0
      have zg2 : g < w2.heap.size := Nat.lt_of_lt_of_le zgr hb2.size
      clear hb2 HCMP q0
      by_cases hc2 : iget (lget ss i) v < iget (lget ss m) v
      · have hn2 := HNEXT.out
        rw [if_pos hc2] at hn2
        have HN2 := Lib.hid hn2
        have hc3 : iget (lget ss i) v - iget (lget ss m) v < 0 := by omega
        clear hn2 hc2
        go_wp2
        go_roundw
        case rel => exact ⟨i + 1, i, xa, xc, by omega, by omega, by go_num, hlt, rfl, HOI.out, by rw [Nat.add_sub_cancel]; exact HN2.out, HB2.out⟩
        case measure => simp [intOf]; omega
      · have hn2 := HNEXT.out
        rw [if_neg hc2] at hn2
        have HN2 := Lib.hid hn2
        have hc3 : ¬ iget (lget ss i) v - iget (lget ss m) v < 0 := by omega
        clear hn2 hc2
        go_wp2
        go_roundw
        case rel => exact ⟨i + 1, m, a, c, by omega, by omega, by go_num, hm, rfl, HOW.out, by rw [Nat.add_sub_cancel]; exact HN2.out, HB2.out⟩
        case measure => simp [intOf]; omega
    · have hi2 : i = ss.length := by omega
      subst hi2
      have hfin : firstD v ss = lget ss m := by
        rw [List.take_of_length_le (by rw [List.length_drop]; omega)] at hmin
        cases ss with
        | nil => exact absurd h0 (Nat.lt_irrefl _)
        | cons l ls => exact hmin
      have HFIN := Lib.hid hfin
      clear hb hmin how hfin HMIN
      go_wp2
      go_ret
      exact ⟨_, rfl, by rw [HFIN.out]; exact own_ck HOW.out (CK.below HB.out), HB.out⟩
end Go.Proofs.YtdmmegmkdhinjaaGreatDoor
