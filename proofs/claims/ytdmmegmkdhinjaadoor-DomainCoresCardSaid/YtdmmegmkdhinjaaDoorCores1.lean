/- The law DomainCores: the function it hands to chosen. -/
import Derived.Test.YtdmmegmkdhinjaaDoorChosen
import Derived.Test.YtdmmegmkdhinjaaDoorBG
namespace Go.Proofs.YtdmmegmkdhinjaaDoor
open Go Go.RowKit
attribute [local go_sem] cell_grow u64_sAnd u64_sOr u64_sDiff sDiff_all zeqI zneI sAnd_bit_zero sAnd_bit_zeroN sAnd_bit_nonzero

set_option maxRecDepth 100000 in
set_option maxHeartbeats 2000000 in
theorem cores1_any (q : Dp) (hq : probD q = true) (l : List Cut) (n x e : Nat) (hn : n < l.length) (hc1 : (cget l n).var = x) (hc2 : (cget l n).value = e) (vs : List Nat) (hx : x < vs.length) (hv : Vals16 q (vs.map natI))
    (hres : nget vs x = e → allHold q (vs.map natI) = false) (lv dv rv sv : Value) (lb nb qb : Nat) (W : World) {B : Nat} (hB : B ≤ W.heap.size) (hl : Cts W B lv l) (hd : Us W B dv q.doms) (hr : DRls W B rv q.rules) (hs : Ints W B sv (vs.map natI))
    (kl : W.heap[lb]? = some (.cells #[lv] 40 (0, 0))) (kn : W.heap[nb]? = some (.cells #[.int .i64 n] 3 (0, 0))) (kq : W.heap[qb]? = some (.cells #[dv, rv] 25 (0, 0))) :
    Gives Tryd.prog 23 #[sv, .pointer (some ⟨lb, 0, none⟩), .pointer (some ⟨nb, 0, none⟩), .pointer (some ⟨qb, 0, none⟩)] W (.bool true) := by
  have hml : (vs.map natI).length = vs.length := List.length_map _
  have HLH : Hid (∀ U, Below W.heap.size W U → Gives Tryd.prog 24 #[.agg #[dv, rv], sv] U (.bool (allHold q (vs.map natI)))) := Lib.hid fun U hU =>
    lawHolds_any q (vs.map natI) hq hv dv rv sv U (hd.below hU hB) (hr.below hU hB) (hs.below hU hB) (Nat.le_trans hB hU.size)
  obtain ⟨cf, hrow, hcf⟩ := hl
  obtain ⟨_, a', c', rfl, hlc, _, hrw⟩ := hrow
  obtain ⟨cb, co, rfl, hcb, hcc⟩ := hrw (by omega)
  obtain ⟨h0, h1, h2, h3⟩ := hcf n hn
  have q0 : W.cell? ⟨cb, co + n * 4, none⟩ = some (.int .i64 (x : Int)) := by rw [hcc _ (by omega), h0, hc1]
  have q1 : W.cell? ⟨cb, co + n * 4 + 1, none⟩ = some (.int .i64 (e : Int)) := by have := hcc (n * 4 + 1) (by omega); rw [h1, hc2] at this; exact this
  obtain ⟨_, b', d', rfl, _, _, hrw⟩ := hs
  rw [hml] at hrw HLH ⊢
  obtain ⟨sb, so, rfl, hsb, hsc⟩ := hrw (by omega)
  have s0 : W.cell? ⟨sb, so + x, none⟩ = some (.int .i64 ((nget vs x : Nat) : Int)) := (hsc x (by omega)).trans (by show some (Value.int .i64 (iget (vs.map natI) x)) = _; rw [iget_nat])
  obtain ⟨da, dc, rfl⟩ := hd.slice
  obtain ⟨ra, rc, rfl⟩ := hr.slice
  have l0 : W.cell? ⟨lb, 0, none⟩ = some (.slice (some ⟨cb, co, none⟩) l.length c') := by rw [cell_of_row _ _ _ _ _ _ kl]; rfl
  have n0 : W.cell? ⟨nb, 0, none⟩ = some (.int .i64 n) := by rw [cell_of_row _ _ _ _ _ _ kn]; rfl
  have p0 : W.cell? ⟨qb, 0, none⟩ = some (.slice da q.doms.length dc) := by rw [cell_of_row _ _ _ _ _ _ kq]; rfl
  have p1 : W.cell? ⟨qb, 1, none⟩ = some (.slice ra q.rules.length rc) := by rw [cell_of_row _ _ _ _ _ _ kq]; rfl
  have zl : lb < W.heap.size := (Array.getElem?_eq_some_iff.1 kl).1
  have zn : nb < W.heap.size := (Array.getElem?_eq_some_iff.1 kn).1
  have zq : qb < W.heap.size := (Array.getElem?_eq_some_iff.1 kq).1
  have zc : cb < W.heap.size := by omega
  have zs : sb < W.heap.size := by omega
  obtain ⟨y, hy⟩ : ∃ y, y = nget vs x := ⟨_, rfl⟩
  rw [← hy] at s0 hres
  clear hcf hcc hrw hsc hd hr kl kn kq h0 h1 h2 h3 hy
  have HQ := Lib.hid (fun (d : Nat) (os : Array Obj) => HLH.out (Go.Sort.grow (redrawn W d) os) (below_regrown W d os))
  clear HLH
  unfold Gives
  by_cases hye : y = e
  · have hah := hres hye
    rw [hah] at HQ
    subst hye
    clear hah hres
    go_enter Tryd.func23, Tryd.ntmps23
    go_wp2_with fail
    refine wp_region_qb (by kernel_rfl) (by kernel_rfl) ?_
    repeat go_big_quiet_step ((with_reducible exact Gives.quiet (HQ.out _ _)))
    refine wpQuiet_nil ?_
    intro w2 hb2
    have HB2 := Lib.hid hb2
    clear hb2
    go_wp2
    go_ret
    exact ⟨rfl, HB2.out⟩
  · have hne : ¬ (y : Int) = (e : Int) := by omega
    have hne2 : ((y : Int) != (e : Int)) = true := by simp; omega
    clear hres
    go_enter Tryd.func23, Tryd.ntmps23
    go_wp2_with fail
    refine wp_region_qb (by kernel_rfl) (by kernel_rfl) ?_
    repeat go_big_quiet_step ((with_reducible exact Gives.quiet (HQ.out _ _)))
    refine wpQuiet_nil ?_
    intro w2 hb2
    have HB2 := Lib.hid hb2
    clear hb2
    go_wp2
    go_ret
    exact ⟨rfl, HB2.out⟩
end Go.Proofs.YtdmmegmkdhinjaaDoor
