/- Package domain: cuts; explained. · Package domain: explained. · The functions of package slices that make and cut rows of ints: Clone, Delete of one. · Memory of the propagator: its cells, cuts of the call's own. -/
import Derived.Test.YtdmmegmkdhinjaaGreatDoorBC
import Derived.Test.YtdmmegmkdhinjaaGreatDoorBA
import Derived.Lib.SliceRun
namespace Go.Proofs.YtdmmegmkdhinjaaGreatDoor
open Go Go.RowKit
attribute [local go_sem] cell_grow u64_sAnd u64_sOr u64_sDiff sDiff_all zeqI zneI sAnd_bit_zero sAnd_bit_zeroN sAnd_bit_nonzero Oper.semAt_some wide_fn wide_depth

/-- A slice of cuts. -/
def Cts (w : World) (B : Nat) (v : Value) (cs : List Cut) : Prop := ∃ c, Row w B 4 v cs.length c ∧ ∀ i, i < cs.length →
  c (i * 4) = .int .i64 (cget cs i).var ∧ c (i * 4 + 1) = .int .i64 (cget cs i).value ∧ c (i * 4 + 2) = .int .i64 (cget cs i).rule ∧ Ints w B (c (i * 4 + 3)) (cget cs i).why
theorem Cts.below {w w' : World} {B : Nat} {v : Value} {xs : List Cut} (h : Cts w B v xs) {B' : Nat} (hb : Below B' w w') (hB : B ≤ B') : Cts w' B v xs :=
  let ⟨c, hr, hc⟩ := h
  ⟨c, hr.below hb hB, fun i hi => let ⟨h1, h2, h3, h4⟩ := hc i hi; ⟨h1, h2, h3, h4.below hb hB⟩⟩
theorem Cts.mono {w : World} {B : Nat} {v : Value} {xs : List Cut} (h : Cts w B v xs) {B' : Nat} (hB : B ≤ B') : Cts w B' v xs :=
  let ⟨c, hr, hc⟩ := h
  ⟨c, hr.mono hB, fun i hi => let ⟨h1, h2, h3, h4⟩ := hc i hi; ⟨h1, h2, h3, h4.mono hB⟩⟩
theorem Cts.slice {w : World} {B : Nat} {v : Value} {xs : List Cut} (h : Cts w B v xs) : ∃ a c, v = .slice a xs.length c := by obtain ⟨c, ⟨_, a, cap, rfl, _⟩, _⟩ := h; exact ⟨_, _, rfl⟩
theorem Cts.len {w : World} {B : Nat} {v : Value} {xs : List Cut} (h : Cts w B v xs) : xs.length ≤ 140737488355328 := by obtain ⟨c, ⟨h, _⟩, _⟩ := h; exact h
theorem cget_take {xs : List Cut} {k i : Nat} (h : i < k) : cget (xs.take k) i = cget xs i := by unfold cget; rw [List.getElem?_take, if_pos h]
theorem Cts.take {w : World} {B : Nat} {a : Option Addr} {n cap : Nat} {xs : List Cut} (h : Cts w B (.slice a n cap) xs) {k : Nat} (hk : k ≤ xs.length) : Cts w B (.slice a k cap) (xs.take k) := by
  obtain ⟨c, hr, hc⟩ := h
  have hn : n = xs.length := by obtain ⟨_, a', cap', hv, _⟩ := hr; cases hv; rfl
  subst hn
  have e : (xs.take k).length = k := by simp; omega
  refine ⟨c, by rw [e]; exact Row.take hr hk, fun i hi => ?_⟩
  rw [cget_take (by omega)]
  exact hc i (by omega)
/-- Where a cut lies in a slice of cuts. -/
theorem Cts.cells {w : World} {B : Nat} {a : Option Addr} {n cap : Nat} {cs : List Cut} (h : Cts w B (.slice a n cap) cs) {j : Nat} (hj : j < cs.length) :
    ∃ b off vv, a = some ⟨b, off, none⟩ ∧ b < B ∧ Ints w B vv (cget cs j).why ∧ w.cell? ⟨b, off + j * 4, none⟩ = some (.int .i64 (cget cs j).var) ∧ w.cell? ⟨b, off + j * 4 + 1, none⟩ = some (.int .i64 (cget cs j).value) ∧
      w.cell? ⟨b, off + j * 4 + 2, none⟩ = some (.int .i64 (cget cs j).rule) ∧ w.cell? ⟨b, off + j * 4 + 3, none⟩ = some vv := by
  obtain ⟨c, ⟨_, a', cap', hv, _, _, hr⟩, hc⟩ := h
  cases hv
  obtain ⟨b, off, rfl, hbs, hcell⟩ := hr (by omega)
  obtain ⟨e1, e2, e3, e4⟩ := hc j hj
  exact ⟨b, off, _, rfl, hbs, e4, by rw [← e1]; exact hcell (j * 4) (by omega), by rw [← e2]; exact hcell (j * 4 + 1) (by omega), by rw [← e3]; exact hcell (j * 4 + 2) (by omega), hcell (j * 4 + 3) (by omega)⟩
section
variable {C : World → Prop} {a : Act} {o : Oper}
theorem quiet_loadF {K : Act → Prop} (x : Operand) {b off : Nat} {f : List Nat} (hf : f.length = 8) (ho : o.op = .load 77 x) (hx : a.eval x = .pointer (some ⟨b, off, none⟩))
    (hC : ∀ w', C w' → w'.rangeAt b off (natsV f)) (h : K (a.put o.dst (fieldV f))) : o.quiet Tryz.prog a C K := by
  refine ⟨_, fun w hw => ?_, h⟩
  have := run_loadAt_mid w b off 77 (P := Tryz.prog) _ _ (hC w hw) Tryz.underlying77 rfl (by rw [natsV_length, hf]; kernel_rfl)
  unfold Oper.quietAt execOp
  simp only [ho, hx, Sem.run_bind, this, Result.andThen_ok, Sem.run_pure, Oper.quietUpon]
  exact ⟨trivial, rfl⟩
end
open Go.Sort in
theorem rangeQ {W : World} {b o : Nat} {cs : List Value} (h : W.rangeAt b o cs) (hb : b < W.heap.size) : ∀ w', (∃ p : Regrown, w' = grow (redrawn W p.d) p.os) → w'.rangeAt b o cs := by
  rintro w' ⟨p, rfl⟩ j v hv
  rw [cell_grow _ _ hb]
  exact h j v hv
theorem natsV_set (f : List Nat) (i x : Nat) : (natsV f).toArray.setIfInBounds i (.int .u64 (x : Nat)) = (natsV (f.set i x)).toArray := by
  unfold natsV
  rw [List.map_set, List.setIfInBounds_toArray]
  rfl
/-- The whole store of a field into a block of one. -/
theorem field_store {W : World} {A : Nat} {f : List Nat} {z : Array Value} (h8 : f.length = 8) (h : W.heap[A]? = some (.cells z 77 (0, 0))) (hz : z.size = 8) :
    W.there A 0 (natsV f).toArray.size ∧ (Tryz.prog.info? 77).map (·.size) = some (natsV f).toArray.size ∧ (W.setCells A 0 (natsV f)).heap[A]? = some (.cells (natsV f).toArray 77 (0, 0)) := by
  have hl : (natsV f).length = 8 := by rw [natsV_length, h8]
  have hi : (Tryz.prog.info? 77).map (·.size) = some (natsV f).toArray.size := by rw [List.size_toArray, hl]; kernel_rfl
  exact ⟨fresh_there h (by rw [hz, List.size_toArray, hl]), hi, setCells_heap h (by rw [hz, hl])⟩
/-- A cut of a value of a variable. -/
def CFit (c : Cut) : Prop := ∃ v e : Nat, c.var = v ∧ v < 8 ∧ c.value = e ∧ e < 16
theorem Fok.set {f : List Nat} (h : Fok f) (i : Nat) {x : Nat} (hx : x < 65536) : Fok (f.set i x) := ⟨by rw [List.length_set]; exact h.len, fun j => by rw [nget_set]; split; exact hx; exact h.lt j⟩
theorem sDiff_lt {a b : Nat} (h : a < 65536) : sDiff a b < 65536 := Nat.xor_lt_two_pow (n := 16) h (Nat.lt_of_le_of_lt Nat.and_le_left h)
theorem whyStep_ok {l : List Cut} {x : Int} {f : List Nat} (h : Fok f) (k : Int) : Fok (whyStep l x f k) := by
  unfold whyStep
  split
  · exact h
  · exact h.set _ (sDiff_lt (h.lt _))
theorem why_ok {l : List Cut} {x : Int} : ∀ (ks : List Int) {f : List Nat}, Fok f → Fok (ks.foldl (whyStep l x) f)
  | [], _, h => h
  | k :: ks, _, h => why_ok ks (whyStep_ok h k)
theorem why_snoc (l : List Cut) (x : Int) (f : List Nat) (ks : List Int) {k : Nat} (h : k < ks.length) : (ks.take (k + 1)).foldl (whyStep l x) f = whyStep l x ((ks.take k).foldl (whyStep l x) f) (iget ks k) := by
  rw [List.take_succ_eq_append_getElem h, List.foldl_append]
  simp [iget, h]
theorem idxOf_find (xs : List Int) {x : Int} (h : x ∈ xs) : idxOf (fun k => iget xs k == x) xs.length = (xs.idxOf x : Nat) := by
  have hlt : xs.idxOf x < xs.length := List.idxOf_lt_length_of_mem h
  refine idxOf_some hlt (fun j hj => ?_) ?_
  · rw [beq_eq_false_iff_ne]
    intro he
    have hjl : j < xs.length := by omega
    have h2 : xs[j] = x := by unfold iget at he; rw [List.getElem?_eq_getElem hjl] at he; exact he
    have := List.not_of_lt_findIdx (p := (· == x)) (xs := xs) hj
    rw [h2] at this
    exact absurd this (by simp)
  · rw [beq_iff_eq]
    unfold iget
    rw [List.getElem?_eq_getElem hlt]
    exact List.getElem_idxOf hlt
end Go.Proofs.YtdmmegmkdhinjaaGreatDoor

namespace Go.Proofs.YtdmmegmkdhinjaaGreatDoor
open Go Go.RowKit
attribute [local go_sem] cell_grow u64_sAnd u64_sOr u64_sDiff sDiff_all zeqI zneI sAnd_bit_zero sAnd_bit_zeroN sAnd_bit_nonzero Oper.semAt_some wide_fn wide_depth

set_option maxRecDepth 100000 in
set_option maxHeartbeats 4000000 in
theorem explained_any (p : Dp) (l : List Cut) (c : Cut) (dv rv lv yv : Value) (w : World) {B : Nat} (hdv : Us w B dv p.doms) (hrv : DRls w B rv p.rules) (hlv : Cts w B lv l) (hyv : Ints w B yv c.why) (hB0 : 0 < B) (hB : B ≤ w.heap.size)
    (hpo : probD p = true) (hl : ∀ i, i < l.length → CFit (cget l i)) (hw : ∀ i, i < c.why.length → ∃ k : Nat, iget c.why i = k ∧ k < l.length) (j : Nat) (hj : c.rule = j) (hjl : j < p.rules.length) (hvar : c.var ∈ (drget p.rules j).vars) (hT : Tab w) :
    Gives Tryz.prog 85 #[.agg #[dv, rv], lv, .agg #[.int .i64 c.var, .int .i64 c.value, .int .i64 c.rule, yv]] w (.bool (explD p l c)) := by
  unfold Gives
  have HDV := Lib.hid hdv; have HRV := Lib.hid hrv; have HLV := Lib.hid hlv; have HYV := Lib.hid hyv; have HT := Lib.hid hT; have HL := Lib.hid hl; have HW := Lib.hid hw; have HPO := Lib.hid hpo; have HPP := Lib.hid (probD_parts hpo)
  obtain ⟨da, dc, rfl⟩ := hdv.slice
  obtain ⟨ra, rc, rfl⟩ := hrv.slice
  obtain ⟨la, lc, rfl⟩ := hlv.slice
  obtain ⟨ya, yc, rfl⟩ := hyv.slice
  have hX : explD p l c = !suppD (c.why.foldl (whyStep l c.var) (padD p.doms)) (drget p.rules j) ((drget p.rules j).vars.idxOf c.var) c.value := by unfold explD whyF; rw [hj]; rfl
  have HX := Lib.hid hX; have HVAR := Lib.hid hvar
  rw [hj]
  obtain ⟨x, hx⟩ : ∃ x, x = c.var := ⟨_, rfl⟩
  rw [← hx] at HX HVAR ⊢
  obtain ⟨cv, hcv⟩ : ∃ cv, cv = c.value := ⟨_, rfl⟩
  rw [← hcv] at HX ⊢
  clear hdv hrv hlv hyv hT hpo hl hw hj hX hvar hx hcv
  go_enter Tryz.func85, Tryz.ntmps85
  go_wp2_with fail
  have hn2 := heap_new2 w (.cells #[.slice da p.doms.length dc, .slice ra p.rules.length rc] 25) (.cells #[.int .i64 x, .int .i64 cv, .int .i64 j, .slice ya c.why.length yc] 73)
  refine (fieldOf_any p _ _ _ (HDV.out.below (Below.new2 _ _ _) hB) (by simp; omega) HPP.out.1 HPP.out.2.1 _ _ _ rfl).mono ?_
  rintro r w1 ⟨rfl, hb1⟩
  have hs1 : w.heap.size + 2 ≤ w1.heap.size := by have := hb1.size; simpa using this
  have k1 := heap_later hn2.1 hb1 (by simp; omega)
  have k2 := heap_later hn2.2 hb1 (by simp)
  have hbw1 : Below w.heap.size w w1 := (Below.new2 _ _ _).trans (hb1.mono (by simp; omega))
  have HB1 := Lib.hid hbw1; have HS1 := Lib.hid hs1; have K1 := Lib.hid k1; have K2 := Lib.hid k2
  clear hb1 hs1 k1 k2 hbw1 hn2
  have hn0 := heap_new0 w1 (.cells (natsV zero8).toArray 77)
  have hsf := field_store (padD_length HPP.out.2.1) hn0 rfl
  have HSF := Lib.hid hsf; clear hsf hn0
  go_wp2_with (refine wpList_store_mid rfl 77 _ _ rfl _ _ _ rfl rfl HSF.out.1 HSF.out.2.1 (all_oneCell_toArray (natsV_one _)) ?_
               generalize hW2 : World.setCells _ _ _ _ = W2
               have k2 : W2.heap[w1.heap.size]? = some (.cells (natsV (padD p.doms)).toArray 77 (0, 0)) := by rw [← hW2]; exact HSF.out.2.2
               have hb2 : Below w1.heap.size w1 W2 := by rw [← hW2]; exact below_setCells (Nat.le_refl _) _ _ _ (Below.new1 _ _)
               have hs2 : w1.heap.size + 1 ≤ W2.heap.size := by have := (Array.getElem?_eq_some_iff.1 k2).1; omega
               clear hW2
               have d4 : W2.cell? ⟨w.heap.size + 1, 3, none⟩ = some (.slice ya c.why.length yc) := by rw [cell_of_row _ _ _ _ _ _ (heap_later K2.out hb2 (by have := HS1.out; omega))]; rfl)
  have HK := Lib.hid k2; have HB2 := Lib.hid hb2; have HS2 := Lib.hid hs2
  clear k2 hb2 hs2 d4
  go_loopw [16] (fun i wr => ∃ k : Nat, k ≤ c.why.length ∧ i = .int .i64 k ∧ wr.heap[w1.heap.size]? = some (.cells (natsV ((c.why.take k).foldl (whyStep l x) (padD p.doms))).toArray 77 (0, 0)) ∧ Below w1.heap.size w1 wr ∧ w1.heap.size + 1 ≤ wr.heap.size) (fun i _ => c.why.length - (intOf i).toNat)
  case atStart => exact ⟨0, Nat.zero_le _, rfl, HK.out, HB2.out, HS2.out⟩
  case round =>
    obtain ⟨k, hk, rfl, hown, hb, hsz⟩ := hrel
    have hbw := HB1.out.trans (hb.mono HB1.out.size)
    have hq := why_ok (l := l) (x := x) (c.why.take k) (padD_ok HPO.out)
    have z0 : w1.heap.size < wr.heap.size := by omega
    have z1 : w.heap.size + 1 < wr.heap.size := by have := HS1.out; omega
    have HN := Lib.hid hown; have HB3 := Lib.hid hb; have HBW := Lib.hid hbw
    clear hown hb hbw
    by_cases hlt : k < c.why.length
    · obtain ⟨q, hqk, hql⟩ := HW.out k hlt
      obtain ⟨_, a', cap', hae, _, _, hrow⟩ := HYV.out
      cases hae
      obtain ⟨yb, yo, rfl, hyb, hycell⟩ := hrow (by omega)
      have y0 : wr.cell? ⟨yb, yo + k, none⟩ = some (.int .i64 q) := by rw [← hqk]; exact rowCell hycell HBW.out (by omega) k (by omega) rfl rfl
      obtain ⟨lb, lo, ov, rfl, hlb, _, l0, l1, _, _⟩ := (HLV.out.below HBW.out hB).cells hql
      obtain ⟨v2, e2, hv2, hv28, he2, he216⟩ := HL.out q hql
      rw [hv2] at l0; rw [he2] at l1
      have z2 : lb < wr.heap.size := by omega
      obtain ⟨f, hf⟩ : ∃ f, f = (c.why.take k).foldl (whyStep l x) (padD p.doms) := ⟨_, rfl⟩
      rw [← hf] at HN hq
      have hst : (c.why.take (k + 1)).foldl (whyStep l x) (padD p.doms) = if (v2 : Int) = x then f else f.set v2 (sDiff (nget f v2) (bitN e2)) := by
        rw [why_snoc _ _ _ _ hlt, ← hf]; unfold whyStep; rw [hqk, Int.toNat_natCast, hv2, he2]; rfl
      have k2 := heap_later K2.out HB3.out (by have := HS1.out; omega)
      have d0 : wr.cell? ⟨w.heap.size + 1, 0, none⟩ = some (.int .i64 x) := by rw [cell_of_row _ _ _ _ _ _ k2]; rfl
      have HST := Lib.hid hst; have HQ := Lib.hid hq
      clear hst hq hycell hrow hv2 he2 hqk hf k2
      by_cases hxe : (v2 : Int) = x
      · subst hxe
        go_wp2_with fail
        refine wp_region_qb (by kernel_rfl) (by kernel_rfl) ?_
        repeat go_big_quiet_step (fail)
        refine wpQuiet_nil ?_
        intro w2 hb2
        have hk2 := heap_later HN.out hb2 z0
        have hb3 := HB3.out.trans (hb2.mono HB3.out.size)
        have HK2 := Lib.hid hk2; have HB4 := Lib.hid hb3
        have hs2 := hb2.size
        clear hk2 hb3 hb2
        go_wp2
        go_roundw
        case rel => exact ⟨k + 1, by omega, by go_num, by rw [HST.out]; (first | rw [if_pos rfl] | rw [if_pos trivial]); exact HK2.out, HB4.out, by omega⟩
        case measure => simp [intOf]; omega
      · have hne : (((v2 : Nat) : Int) != x) = true := by rw [bne_iff_ne]; exact hxe
        have HXE := Lib.hid hxe
        clear hxe
        go_wp2_with fail
        refine wp_region_qb (by kernel_rfl) (by kernel_rfl) ?_
        repeat go_big_quiet_step (fail)
        refine wpQuiet_nil ?_
        intro w2 hb2
        have hk2 := heap_later HN.out hb2 z0
        have hb3 := HB3.out.trans (hb2.mono HB3.out.size)
        have l0 := (hb2.cell (p := ⟨lb, lo + q * 4, none⟩) z2).trans l0
        have l1 := (hb2.cell (p := ⟨lb, lo + q * 4 + 1, none⟩) z2).trans l1
        have f0 : w2.cell? ⟨w1.heap.size, v2, none⟩ = some (.int .u64 (nget f v2 : Nat)) := by rw [cell_of_row _ _ _ _ _ _ hk2, List.getElem?_toArray, natsV_get f v2 (by rw [HQ.out.len]; omega)]
        have z2 : lb < w2.heap.size := by have := hb2.size; omega
        have z0' : w1.heap.size < w2.heap.size := by have := hb2.size; omega
        have hqlI : ((q : Nat) : Int) < ((l.length : Nat) : Int) := by omega
        have he64 : e2 < 64 := by omega
        have hfu : U64 (nget f v2) := Nat.lt_trans (HQ.out.lt v2) (by decide)
        have hbu : U64 (bitN e2) := U64.bit he64
        have HK2 := Lib.hid hk2; have HB4 := Lib.hid hb3
        have hs2 := hb2.size
        clear hk2 hb3 hb2 d0 y0
        go_wp2_with fail
        refine wp_region_qbt 14 (by kernel_rfl) (by kernel_rfl) ?_
        simp only [List.take_succ_cons, List.take_zero, List.drop_succ_cons, List.drop_zero]
        repeat go_big_quiet_step ((exact Gives.quiet (Gives.of_same (one_any e2 _ he64))))
        refine wpQuiet_nil ?_
        intro w3 hb3
        have hk3 := heap_later HK2.out hb3 z0'
        have fc : w3.cell? ⟨w1.heap.size, v2, none⟩ = some (.int .u64 (nget f v2 : Nat)) := by rw [cell_of_row _ _ _ _ _ _ hk3, List.getElem?_toArray, natsV_get f v2 (by rw [HQ.out.len]; omega)]
        have ff : w3.frozen? ⟨w1.heap.size, v2, none⟩ = false := by simp [World.frozen?, hk3]
        have HK3 := Lib.hid hk3; have HB5 := Lib.hid (HB4.out.trans (hb3.mono HB4.out.size)); have hs3 := hb3.size
        clear hk3 hb3 l0 l1 f0
        go_wp2
        go_roundw
        case rel =>
          refine ⟨k + 1, by omega, by go_num, ?_, HB5.out.setCell (Nat.le_refl _) _, by simp only [World.setCell, Array.size_modify]; omega⟩
          rw [HST.out, if_neg HXE.out, ← natsV_set]
          exact set_row HK3.out
        case measure => simp [intOf]; omega
    · have hk2 : k = c.why.length := by omega
      subst hk2
      rw [List.take_length] at HN hq
      have k1 := heap_later K1.out HB3.out (by have := HS1.out; omega)
      have k2 := heap_later K2.out HB3.out (by have := HS1.out; omega)
      have c1 : wr.cell? ⟨w.heap.size, 1, none⟩ = some (.slice ra p.rules.length rc) := by rw [cell_of_row _ _ _ _ _ _ k1]; rfl
      have d2 : wr.cell? ⟨w.heap.size + 1, 2, none⟩ = some (.int .i64 j) := by rw [cell_of_row _ _ _ _ _ _ k2]; rfl
      have z3 : w.heap.size < wr.heap.size := by omega
      obtain ⟨f, hfdef⟩ : ∃ f, f = c.why.foldl (whyStep l x) (padD p.doms) := ⟨_, rfl⟩
      rw [← hfdef] at HN hq HX
      obtain ⟨rb, ro, vv, nv, rfl, hrb, hra, q0, q1, q2, q3⟩ := HRV.out.cells hjl
      obtain ⟨va, vc, rfl⟩ := hra.vars.slice
      obtain ⟨na, nc, rfl⟩ := hra.nums.slice
      have hr0 := HPP.out.2.2.2.2 j hjl
      obtain ⟨r, hr⟩ : ∃ r, r = drget p.rules j := ⟨_, rfl⟩
      rw [← hr] at hra q0 q1 q2 q3 hr0 HX HVAR
      have q0 := (HBW.out.cell (p := ⟨rb, ro + j * 4, none⟩) (by show rb < w.heap.size; omega)).trans q0
      have q1 := (HBW.out.cell (p := ⟨rb, ro + j * 4 + 1, none⟩) (by show rb < w.heap.size; omega)).trans q1
      have q2 := (HBW.out.cell (p := ⟨rb, ro + j * 4 + 2, none⟩) (by show rb < w.heap.size; omega)).trans q2
      have q3 := (HBW.out.cell (p := ⟨rb, ro + j * 4 + 3, none⟩) (by show rb < w.heap.size; omega)).trans q3
      have HRA := Lib.hid hra; have HR0 := Lib.hid hr0; have HQ := Lib.hid hq; have HK2 := Lib.hid k2
      clear k1 k2 hra hr0 hq hfdef hr
      go_wp2_with fail
      refine abs_wp (fun V => V.heap[wr.heap.size]? = some (.cells #[.int .i64 r.kind, .slice va r.vars.length vc, .slice na r.nums.length nc, .int .i64 r.n] 69 (0, 0)) ∧ Below wr.heap.size wr V) ⟨heap_new0 _ _, Below.new1 _ _⟩ ?_
      rintro V ⟨kv, hbv⟩
      have kf := heap_later HN.out hbv z0
      have kc := heap_later HK2.out hbv z1
      have hrow := row_rangeL kf
      have t0 : V.cell? ⟨wr.heap.size, 0, none⟩ = some (.int .i64 r.kind) := by rw [cell_of_row _ _ _ _ _ _ kv]; rfl
      have t1 : V.cell? ⟨wr.heap.size, 1, none⟩ = some (.slice va r.vars.length vc) := by rw [cell_of_row _ _ _ _ _ _ kv]; rfl
      have t2 : V.cell? ⟨wr.heap.size, 2, none⟩ = some (.slice na r.nums.length nc) := by rw [cell_of_row _ _ _ _ _ _ kv]; rfl
      have t3 : V.cell? ⟨wr.heap.size, 3, none⟩ = some (.int .i64 r.n) := by rw [cell_of_row _ _ _ _ _ _ kv]; rfl
      have g0 : V.cell? ⟨w.heap.size + 1, 0, none⟩ = some (.int .i64 x) := by rw [cell_of_row _ _ _ _ _ _ kc]; rfl
      have g1 : V.cell? ⟨w.heap.size + 1, 1, none⟩ = some (.int .i64 cv) := by rw [cell_of_row _ _ _ _ _ _ kc]; rfl
      have y0 : wr.heap.size < V.heap.size := (Array.getElem?_eq_some_iff.1 kv).1
      have y1 : w.heap.size + 1 < V.heap.size := by omega
      have y2 : w1.heap.size < V.heap.size := by omega
      have hbV := HBW.out.trans (hbv.mono HBW.out.size)
      obtain ⟨ix, hix⟩ : ∃ ix, ix = r.vars.idxOf x := ⟨_, rfl⟩
      have hixl : ix < r.vars.length := by rw [hix]; exact List.idxOf_lt_length_of_mem HVAR.out
      have h1 : ∀ d os, Gives Tryz.prog 113 #[.slice va r.vars.length vc, .int .i64 x] (Go.Sort.grow (redrawn V d) os) (.int .i64 (ix : Nat)) := fun d os => by
        have := Gives.of_same (index_ints _ _ x (Go.Sort.grow (redrawn V d) os) (HRA.out.vars.below (below_grow hbV d os) hB))
        rw [idxOf_find _ HVAR.out, ← hix] at this
        exact this
      have h2 : ∀ d os, Gives Tryz.prog 109 #[fieldV f, .agg #[.int .i64 r.kind, .slice va r.vars.length vc, .slice na r.nums.length nc, .int .i64 r.n], .int .i64 (ix : Nat), .int .i64 cv] (Go.Sort.grow (redrawn V d) os) (.bool (suppD f r ix cv)) := fun d os =>
        supported_any f HQ.out r HR0.out (by have := HPP.out.2.1; omega) ix hixl cv _ _ _ (HRA.out.below (below_grow hbV d os) hB) hB0 (Nat.le_trans hB (below_grow hbV d os).size) (HT.out.below (below_grow hbV d os) (by omega))
      rw [← hix] at HX
      have H1 := Lib.hid h1; have H2 := Lib.hid h2; have HRG := Lib.hid hrow; have HBV := Lib.hid hbV
      clear h1 h2 hrow hbV kv hbv kf kc hix q0 q1 q2 q3 c1 d2
      refine wp_region_qb (by kernel_rfl) (by kernel_rfl) ?_
      repeat (first | (go_big_quiet_want; refine quiet_loadF _ HQ.out.len rfl rfl (rangeQ HRG.out y2) ?_; simp only [Act.put, List.setIfInBounds_toArray, List.set_cons_zero, List.set_cons_succ]; go_big_quiet_on) | go_big_quiet_step ((first | (with_reducible exact Gives.quiet (H1.out _ _)) | (with_reducible exact Gives.quiet (H2.out _ _)))))
      refine wpQuiet_nil ?_
      intro w2 hb2
      go_wp2
      go_ret
      exact ⟨by rw [HX.out]; rfl, HBV.out.trans (hb2.mono HBV.out.size)⟩
end Go.Proofs.YtdmmegmkdhinjaaGreatDoor

namespace Go.Proofs.YtdmmegmkdhinjaaGreatDoor
open Go Go.RowKit
attribute [local go_sem] cell_grow Oper.semAt_some

theorem info3 : (Tryz.prog.info? 3).map (fun i => (i.zero, i.size, i.bytes)) = some (some (.int .i64 0), 1, 8) := by kernel_rfl
/-- A row of ints of the call's own, as a slice of ints. -/
theorem ownsRow_ints {w : World} {base : Nat} {v : Value} {xs : List Int} {n : Nat} (h : w.ownsRow base 3 1 v n (intsV xs)) (hn : n ≤ 140737488355328) (hl : xs.length = n) : Ints w w.heap.size v xs := by
  unfold Ints
  rw [hl]
  exact ownsRow_row h hn fun i hi => ints_get xs i (by omega)
set_option maxRecDepth 100000 in
set_option maxHeartbeats 1000000 in
theorem clone_ints (xs : List Int) (b off n c : Nat) (w : World) {B : Nat} (h : Ints w B (.slice (some ⟨b, off, none⟩) n c) xs) (hsm : xs.length ≤ 1000000) (h0 : 0 < n) :
    Calls Tryz.prog 32 #[.slice (some ⟨b, off, none⟩) n c] w fun e w' => ∃ v', e = .returned v' ∧ w'.ownsRow w.heap.size 3 1 v' n (intsV xs) ∧ Below w.heap.size w w' := by
  obtain ⟨_, a', c', hv, hnc, hcm, hr⟩ := h
  cases hv
  obtain ⟨b', off', hae, hbB, hcell⟩ := hr h0
  cases hae
  obtain ⟨i0, hi, hz0, hz1, hz2⟩ := info_parts info3
  have q22 : ∀ (w : World) (a : Option Addr) (n c n' c' : Nat), (binOp .eql 39 (.slice a n c) (.slice none n' c')).run Tryz.prog w = .ok (.bool a.isNone) w := fun w a n c n' c' => Lib.run_eql_slice_nil w _ _ a n c n' c' Tryz.underlying39
  have HC := Lib.hid hcell
  clear hr hcell
  go_enter Tryz.func32, Tryz.ntmps32
  go_wp2_with (at_builtin; refine wpList_append_own _ rfl _ _ 39 rfl w.heap.size 3 i0 (.int .i64 0) 1 8 Tryz.underlying39 hi hz0 hz1 hz2 rfl (by decide) _ _ _ rfl (World.ownsRow_made w #[] 0 (Nat.le_refl _) (Nat.zero_le _) rfl) ⟨b, off, none⟩ xs.length c (intsV xs) rfl (by rw [intsV_length]; omega) ?qc2 ?qc3 ?qc4 ?qc5 (by simp) ?_)
  case qc2 =>
    intro j u hj
    have hjl : j < xs.length := by have := (List.getElem?_eq_some_iff.1 hj).1; rwa [intsV_length] at this
    rw [ints_get xs j hjl] at hj
    cases hj
    show (w.alloc _).cell? ⟨b, off + j, none⟩ = _
    exact ((Below.new1 w _).cell (p := ⟨b, off + j, none⟩) (World.block_lt_of_cell? w ⟨b, off + j, none⟩ (HC.out j (by omega)))).trans (HC.out j (by omega))
  case qc3 => exact ints_one xs
  case qc4 => unfold maxLen; omega
  case qc5 => omega
  intro v' w1 hown hgrow _
  have hb := (Below.new1 w (.cells #[] 3)).grown hgrow (by simp) (fun q hq => by simp [Value.ownBlock] at hq; omega)
  clear hgrow
  go_wp2
  go_ret
  exact ⟨_, rfl, hown, hb⟩
theorem zero3 : ∀ w, (zeroValue 3).run Tryz.prog w = .ok (.int .i64 0) w := by
  intro w
  obtain ⟨i0, hi0, hz0, _, _⟩ := info_parts info3
  simp [zeroValue, typeInfo, Sem.run_bind, hi0, hz0]
theorem clear_one (g k cap base m n c ty : Nat) (w : World) {xs : List Value} (h : w.ownsRow base 3 1 (.slice (some ⟨g, 0, none⟩) k cap) k xs) (hm : m < cap) (hn : n = 1) :
    (Builtin.clear_ #[39] ty #[.slice (some ⟨g, m, none⟩) n c]).run Tryz.prog w = .ok (.tuple #[]) (w.setCell ⟨g, m, none⟩ (.int .i64 0)) := by
  subst hn
  have hc := own_cell h hm
  exact Lib.run_clear_slice w _ _ ty _ Tryz.underlying39 zero3 rfl rfl g m _ _ (by omega) (fun j hj => (show j = 0 by omega) ▸ hc.1) (fun j hj => (show j = 0 by omega) ▸ hc.2)
set_option maxRecDepth 100000 in
set_option maxHeartbeats 1000000 in
/-- Delete of the one at i, in a row of the call's own. -/
theorem delete_ints (xs : List Int) (g n cap i base : Nat) (w : World) (hown : w.ownsRow base 3 1 (.slice (some ⟨g, 0, none⟩) n cap) n (intsV xs)) (hi : i < n) :
    Calls Tryz.prog 132 #[.slice (some ⟨g, 0, none⟩) n cap, .int .i64 i, .int .i64 ((i : Int) + 1)] w fun e w' => e = .returned (.slice (some ⟨g, 0, none⟩) (n - 1) cap) ∧
      w'.ownsRow base 3 1 (.slice (some ⟨g, 0, none⟩) (n - 1) cap) (n - 1) (intsV (xs.eraseIdx i)) ∧ Below g w w' := by
  have hxl : xs.length = n := by have := hown.1; rw [intsV_length] at this; omega
  obtain ⟨i0, hi0, hz0, hz1, hz2⟩ := info_parts info3
  obtain ⟨hnc, hcm, cur, hg, hcs, htk⟩ : n ≤ cap ∧ cap ≤ maxLen ∧ ∃ cur : Array Value, w.heap[g]? = some (.cells cur 3 (0, 0)) ∧ cur.size = cap ∧ cur.toList.take n = intsV xs := by
    rcases hown.2 with ⟨h, _⟩ | ⟨g', cap', cur, h, hbg, hg, h1, h2, h3, h4⟩
    · simp at h
    · simp only [Value.slice.injEq, Option.some.injEq, Addr.mk.injEq, and_true, true_and] at h
      obtain ⟨rfl, rfl⟩ := h
      exact ⟨h1, h2, cur, hg, by simpa using h3, by simpa using h4⟩
  have hbg := (hown.lt g rfl).1
  have hown1 : w.ownsRow base 3 1 (.slice (some ⟨g, 0, none⟩) i cap) i (intsV (xs.take i)) :=
    ⟨by rw [intsV_length]; simp; omega, .inr ⟨g, cap, cur, rfl, hbg, hg, by omega, hcm, by simpa using hcs, by rw [Nat.mul_one, ← intsV_take, ← htk, List.take_take]; congr 1; omega⟩⟩
  have hmax : cap ≤ 9223372036854775807 := by unfold maxLen at hcm; omega
  have HOW := Lib.hid hown1; have HG := Lib.hid hg; have HCS := Lib.hid hcs; have HTK := Lib.hid htk; have HBG := Lib.hid hbg
  clear hown hown1 hg hcs htk hbg
  go_enter Tryz.func132, Tryz.ntmps132
  go_wp2
  refine wp_region_qbt 6 (by kernel_rfl) (by kernel_rfl) ?_
  simp only [List.take_succ_cons, List.take_zero, List.drop_succ_cons, List.drop_zero]
  repeat go_big_quiet_step (fail)
  refine wpQuiet_nil ?_
  intro w2 hb2
  have hown2 : w2.ownsRow base 3 1 (.slice (some ⟨g, 0, none⟩) i cap) i (intsV (xs.take i)) := HOW.out.kept (row := none) ⟨hb2.os, hb2.tape, hb2.output, hb2.size, fun k hk _ => hb2.block k hk⟩ (.inr (by simp [Value.ownBlock]))
  have hsrc : ∀ ad, (if cap = i + 1 then some (⟨g, 0, none⟩ : Addr) else some ⟨g, i + 1, none⟩) = some ad → ∀ j u, (intsV (xs.drop (i + 1)))[j]? = some u → w2.cell? (ad.add j) = some u := by
    intro ad had j u hj
    have hjl : j < n - (i + 1) := by have := (List.getElem?_eq_some_iff.1 hj).1; rw [intsV_length] at this; simp at this; omega
    rw [if_neg (by omega)] at had
    cases had
    rw [Addr.add_lit, (hb2.cell (p := ⟨g, i + 1 + j, none⟩) (Array.getElem?_eq_some_iff.1 HG.out).1), cell_of_row _ _ _ _ _ _ HG.out]
    have h1 : (cur.toList.take n)[i + 1 + j]? = (intsV xs)[i + 1 + j]? := by rw [HTK.out]
    rw [List.getElem?_take, if_pos (by omega)] at h1
    have h2 : (intsV (xs.drop (i + 1)))[j]? = (intsV xs)[i + 1 + j]? := by simp [intsV, List.getElem?_drop]
    rw [h2] at hj
    rw [← hj, ← h1]; simp
  have HO2 := Lib.hid hown2; have HSRC := Lib.hid hsrc; have HB2 := Lib.hid hb2
  clear hown2 hsrc hb2
  go_wp2_with (at_builtin; refine wpList_append_fits_any _ rfl _ _ 39 rfl base 3 i0 1 Tryz.underlying39 hi0 hz1 g i cap _ rfl HO2.out _ (n - (i + 1)) _ (intsV (xs.drop (i + 1))) rfl (by rw [intsV_length]; simp; omega) (by intro h; split at h <;> cases h) HSRC.out (ints_one _) (by omega) ?_; intro w3 hown3 hgrow3; have hcl := fun ty c => clear_one g _ cap base (i + (n - (i + 1))) (n - (i + (n - (i + 1)))) c ty w3 hown3 (by omega) (by omega))
  all_goals
    have hm : i + (n - (i + 1)) = n - 1 := by omega
    have he : intsV (xs.take i) ++ intsV (xs.drop (i + 1)) = intsV (xs.eraseIdx i) := by rw [intsV_append, List.eraseIdx_eq_take_drop_succ]
    have s := (hown3.stored (i + (n - (i + 1))) (.int .i64 0)).1
    rw [he] at s
    rw [List.set_eq_of_length_le (by rw [intsV_length, List.length_eraseIdx]; split <;> omega)] at s
    have hb := ((HB2.out.mono (Nat.le_of_lt (Array.getElem?_eq_some_iff.1 HG.out).1)).grown hgrow3 (Nat.le_trans (Nat.le_of_lt (Array.getElem?_eq_some_iff.1 HG.out).1) HB2.out.size) (fun q hq => by cases hq; exact Nat.le_refl _)).setCell (p := ⟨g, i + (n - (i + 1)), none⟩) (Nat.le_refl _) (.int .i64 0)
    try rw [h] at s
    go_ret
    refine ⟨by rw [← hm]; rfl, ?_, hb⟩
    simpa only [hm] using s

end Go.Proofs.YtdmmegmkdhinjaaGreatDoor

namespace Go.Proofs.YtdmmegmkdhinjaaGreatDoor
open Go Go.RowKit

/-- The cells of a propagator. -/
def propC (bv rv : Value) (f : List Nat) (lv : Value) (rs : Bool) : List Value := [bv, rv] ++ (natsV f ++ [lv, .bool rs])
theorem propC_length {bv rv : Value} {f : List Nat} {lv : Value} {rs : Bool} (h8 : f.length = 8) : (propC bv rv f lv rs).length = 12 := by simp [propC, natsV_length, h8]
section
variable {w : World} {x : Nat} {t : TypeId} {bv rv lv : Value} {f : List Nat} {rs : Bool}
theorem propC_cells (h8 : f.length = 8) (h : w.heap[x]? = some (.cells (propC bv rv f lv rs).toArray t (0, 0))) :
    w.cell? ⟨x, 0, none⟩ = some bv ∧ w.cell? ⟨x, 1, none⟩ = some rv ∧ (∀ i, i < 8 → w.cell? ⟨x, 2 + i, none⟩ = some (.int .u64 (nget f i : Nat))) ∧ w.cell? ⟨x, 10, none⟩ = some lv ∧ w.cell? ⟨x, 11, none⟩ = some (.bool rs) ∧ ∀ i, w.frozen? ⟨x, i, none⟩ = false := by
  have hl : (natsV f).length = 8 := by rw [natsV_length, h8]
  refine ⟨by rw [cell_of_row _ _ _ _ _ _ h]; rfl, by rw [cell_of_row _ _ _ _ _ _ h]; rfl, fun i hi => ?_, ?_, ?_, fun i => by simp [World.frozen?, h]⟩
  · rw [cell_of_row _ _ _ _ _ _ h, List.getElem?_toArray, propC, List.getElem?_append_right (by simp), List.getElem?_append_left (by simp; omega)]
    simp only [List.length_cons, List.length_nil, Nat.reduceAdd, Nat.add_sub_cancel_left]
    exact natsV_get _ _ (by rw [h8]; exact hi)
  · rw [cell_of_row _ _ _ _ _ _ h, List.getElem?_toArray, propC, List.getElem?_append_right (by simp), List.getElem?_append_right (by simp; omega)]
    simp [hl]
  · rw [cell_of_row _ _ _ _ _ _ h, List.getElem?_toArray, propC, List.getElem?_append_right (by simp), List.getElem?_append_right (by simp; omega)]
    simp [hl]
/-- The domains in a propagator. -/
theorem prop_range (h8 : f.length = 8) (h : w.heap[x]? = some (.cells (propC bv rv f lv rs).toArray t (0, 0))) : w.rangeAt x 2 (natsV f) := fun j v hv => by
  have hj : j < f.length := by have := (List.getElem?_eq_some_iff.1 hv).1; rwa [natsV_length] at this
  rw [(propC_cells h8 h).2.2.1 j (by omega), ← natsV_get f j hj, hv]
theorem propC_set (h8 : f.length = 8) {i : Nat} (hi : i < 8) (u : Nat) : (propC bv rv f lv rs).set (2 + i) (.int .u64 (u : Nat)) = propC bv rv (f.set i u) lv rs := by
  unfold propC
  rw [List.set_append_right _ _ (by simp), List.set_append_left _ _ (by simp [natsV_length]; omega)]
  simp only [List.length_cons, List.length_nil, Nat.reduceAdd, Nat.add_sub_cancel_left]
  unfold natsV
  rw [List.map_set]; rfl
theorem propC_cuts (h8 : f.length = 8) (lv' : Value) : (propC bv rv f lv rs).set 10 lv' = propC bv rv f lv' rs := by
  unfold propC
  rw [List.set_append_right _ _ (by simp), List.set_append_right _ _ (by simp [natsV_length]; omega)]
  simp [natsV_length, h8]
theorem prop_set (h8 : f.length = 8) {i : Nat} (hi : i < 8) (u : Nat) (h : w.heap[x]? = some (.cells (propC bv rv f lv rs).toArray t (0, 0))) : (w.setCell ⟨x, 2 + i, none⟩ (.int .u64 (u : Nat))).heap[x]? = some (.cells (propC bv rv (f.set i u) lv rs).toArray t (0, 0)) := by
  rw [set_row h, List.setIfInBounds_toArray, propC_set h8 hi]
theorem prop_cuts (h8 : f.length = 8) (lv' : Value) (h : w.heap[x]? = some (.cells (propC bv rv f lv rs).toArray t (0, 0))) : (w.setCell ⟨x, 10, none⟩ lv').heap[x]? = some (.cells (propC bv rv f lv' rs).toArray t (0, 0)) := by
  rw [set_row h, List.setIfInBounds_toArray, propC_cuts h8]
end
theorem cget_snoc (l : List Cut) (c : Cut) (i : Nat) : cget (l ++ [c]) i = if i < l.length then cget l i else if i = l.length then c else default := by
  unfold cget
  by_cases h : i < l.length
  · rw [if_pos h, List.getElem?_append_left h]
  · rw [if_neg h, List.getElem?_append_right (by omega)]
    by_cases h2 : i = l.length
    · subst h2; simp
    · rw [if_neg h2, List.getElem?_eq_none (by simp; omega)]; rfl
def NatsB (n : Nat) (ws : List Int) : Prop := ∀ x ∈ ws, ∃ k : Nat, x = k ∧ k < n
theorem NatsB.get {n : Nat} {ws : List Int} (h : NatsB n ws) (i : Nat) (hi : i < ws.length) : ∃ k : Nat, iget ws i = k ∧ k < n := by
  have := h ws[i] (List.getElem_mem hi)
  simpa [iget, hi] using this
theorem NatsB.erase {n : Nat} {ws : List Int} (h : NatsB n ws) (i : Nat) : NatsB n (ws.eraseIdx i) := fun x hx => h x (List.mem_of_mem_eraseIdx hx)
/-- Cuts in a row of the call's own; their reasons anywhere. -/
def COwn (w : World) (base : Nat) (v : Value) (fs : List Cut) : Prop := ∃ cs, w.ownsRow base 73 4 v fs.length cs ∧ ∀ i, i < fs.length →
  cs[i * 4]? = some (.int .i64 (cget fs i).var) ∧ cs[i * 4 + 1]? = some (.int .i64 (cget fs i).value) ∧ cs[i * 4 + 2]? = some (.int .i64 (cget fs i).rule) ∧
    ∃ yv, cs[i * 4 + 3]? = some yv ∧ w.ownsRow base 3 1 yv (cget fs i).why.length (intsV (cget fs i).why)
theorem COwn.ck {w w' : World} {base : Nat} {v : Value} {fs : List Cut} (h : COwn w base v fs) (hc : CK w w') : COwn w' base v fs := by
  obtain ⟨cs, h1, h2⟩ := h
  refine ⟨cs, own_ck h1 hc, fun i hi => ?_⟩
  obtain ⟨e1, e2, e3, yv, e5, e6⟩ := h2 i hi
  exact ⟨e1, e2, e3, yv, e5, own_ck e6 hc⟩
theorem COwn.nil (w : World) (base : Nat) : COwn w base (.slice none 0 0) [] := ⟨[], World.ownsRow_nil _ _ _ _, fun _ hi => absurd hi (Nat.not_lt_zero _)⟩
theorem COwn.cts {w : World} {base : Nat} {v : Value} {fs : List Cut} (h : COwn w base v fs) (hn : fs.length ≤ 140737488355328) (hy : ∀ i, i < fs.length → (cget fs i).why.length ≤ 140737488355328) : Cts w w.heap.size v fs := by
  obtain ⟨cs, h1, h2⟩ := h
  refine ⟨fun i => cs[i]?.getD undef, ownsRow_row h1 hn (fun i hi => ?_), fun i hi => ?_⟩
  · have : i < cs.length := by rw [h1.1]; exact hi
    rw [List.getElem?_eq_getElem this]; rfl
  · obtain ⟨e1, e2, e3, yv, e5, e6⟩ := h2 i hi
    simp only [e1, e2, e3, e5, Option.getD_some]
    exact ⟨trivial, trivial, trivial, ownsRow_ints e6 (hy i hi) rfl⟩
/-- One more cut. -/
theorem COwn.snoc {w : World} {base : Nat} {v : Value} {fs : List Cut} {cs : List Value} {f : Cut} {yv : Value} (h1 : w.ownsRow base 73 4 v (fs.length + 1) (cs ++ [.int .i64 f.var, .int .i64 f.value, .int .i64 f.rule, yv])) (hl : cs.length = fs.length * 4)
    (h2 : ∀ i, i < fs.length → cs[i * 4]? = some (.int .i64 (cget fs i).var) ∧ cs[i * 4 + 1]? = some (.int .i64 (cget fs i).value) ∧ cs[i * 4 + 2]? = some (.int .i64 (cget fs i).rule) ∧ ∃ yv, cs[i * 4 + 3]? = some yv ∧ w.ownsRow base 3 1 yv (cget fs i).why.length (intsV (cget fs i).why))
    (hy : w.ownsRow base 3 1 yv f.why.length (intsV f.why)) : COwn w base v (fs ++ [f]) := by
  refine ⟨_, by rw [List.length_append]; exact h1, fun i hi => ?_⟩
  rw [cget_snoc]
  by_cases h : i < fs.length
  · simp only [if_pos h]
    obtain ⟨e1, e2, e3, yv, e5, e6⟩ := h2 i h
    rw [List.getElem?_append_left (by omega), List.getElem?_append_left (by omega), List.getElem?_append_left (by omega), List.getElem?_append_left (by omega)]
    exact ⟨e1, e2, e3, yv, e5, e6⟩
  · have hi2 : i = fs.length := by simp at hi; omega
    subst hi2
    simp only [Nat.lt_irrefl, if_false, if_true]
    rw [List.getElem?_append_right (by omega), List.getElem?_append_right (by omega), List.getElem?_append_right (by omega), List.getElem?_append_right (by omega), hl]
    simp only [Nat.sub_self, Nat.add_sub_cancel_left]
    exact ⟨rfl, rfl, rfl, yv, rfl, hy⟩
theorem COwn.low {w w' : World} {base : Nat} {v : Value} {fs : List Cut} (h : COwn w base v fs) (hc : ∀ (k : Nat) (c : Array Value) (t : TypeId) (f : Nat × Nat), base ≤ k → w.heap[k]? = some (Obj.cells c t f) → w'.heap[k]? = some (Obj.cells c t f)) : COwn w' base v fs := by
  obtain ⟨cs, h1, h2⟩ := h
  refine ⟨cs, own_low h1 hc, fun i hi => ?_⟩
  obtain ⟨e1, e2, e3, yv, e5, e6⟩ := h2 i hi
  exact ⟨e1, e2, e3, yv, e5, own_low e6 hc⟩
end Go.Proofs.YtdmmegmkdhinjaaGreatDoor
