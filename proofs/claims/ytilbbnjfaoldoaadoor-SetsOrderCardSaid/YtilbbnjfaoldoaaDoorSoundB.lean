/- solves, said, the closure of SetsSound. -/
import Derived.Test.YtilbbnjfaoldoaaDoorSoundA
namespace Go.Proofs.YtilbbnjfaoldoaaDoor
open Go Go.RowKit
attribute [local go_sem] cell_grow u64_sAnd u64_sOr u64_sDiff sDiff_all zeqI zneI sAnd_bit_zero sAnd_bit_zeroN sAnd_bit_nonzero rowOf_grow rowOk_grow rowOf_alloc rowOk_alloc

def solvesB (p : Prob) (l : List Nat) : Bool := holdsOk p l && (holdsR p l == (p.rules.length : Int)) && betwB p.bounds l
set_option maxRecDepth 100000 in
set_option maxHeartbeats 1000000 in
theorem solves_any (p : Prob) (l : List Nat) (bv rv lv : Value) (w : World) {B : Nat} (hbv : Bnds w B bv p.bounds) (hrv : Rls w B rv p.rules) (hlv : Us w B lv l) (hB : B ≤ w.heap.size) (hub : U64s p.bounds) (hul : ∀ s ∈ l, U64 s) (hT : Tab w) (hw0 : 0 < w.heap.size) :
    Gives Tryd.prog 46 #[.agg #[bv, rv], lv] w (.bool (solvesB p l)) := by
  unfold Gives
  have HBV := Lib.hid hbv; have HRV := Lib.hid hrv; have HLV := Lib.hid hlv; have HUB := Lib.hid hub; have HUL := Lib.hid hul; have HT := Lib.hid hT
  obtain ⟨ba, bc, rfl⟩ := hbv.slice
  obtain ⟨ra, rc, rfl⟩ := hrv.slice
  obtain ⟨la, lc, rfl⟩ := hlv.slice
  clear hbv hrv hlv hub hul hT
  have K0 := Lib.hid (heap_new0 w (.cells #[.slice ba p.bounds.length bc, .slice ra p.rules.length rc] 25)); have HB0 := Lib.hid (Below.new1 w (.cells #[.slice ba p.bounds.length bc, .slice ra p.rules.length rc] 25))
  go_enter Tryd.func46, Tryd.ntmps46
  go_wp2_with fail
  refine (holds_any p l _ _ _ _ (HBV.out.below HB0.out hB) (HRV.out.below HB0.out hB) (HLV.out.below HB0.out hB) (by simp; omega) HUB.out HUL.out (HT.out.below HB0.out hw0) (by simp)).mono ?_
  rintro e w1 ⟨rfl, hb1⟩
  have HB1 := Lib.hid (HB0.out.trans (hb1.mono (by simp))); have K1 := Lib.hid (heap_later K0.out hb1 (by simp))
  clear hb1 K0 HB0
  have z1 : w.heap.size < w1.heap.size := (Array.getElem?_eq_some_iff.1 K1.out).1
  have c0 : w1.cell? ⟨w.heap.size, 0, none⟩ = some (.slice ba p.bounds.length bc) := by rw [cell_of_row _ _ _ _ _ _ K1.out]; rfl
  have c1 : w1.cell? ⟨w.heap.size, 1, none⟩ = some (.slice ra p.rules.length rc) := by rw [cell_of_row _ _ _ _ _ _ K1.out]; rfl
  cases hok : holdsOk p l
  case false =>
    have HN : Hid (solvesB p l = false) := Lib.hid (by unfold solvesB; rw [hok]; rfl)
    rw [show errOf false = 2 from rfl]
    obtain ⟨hr, hhr⟩ : ∃ hr, hr = holdsR p l := ⟨_, rfl⟩
    rw [← hhr]
    clear hok hhr
    go_wp2
    go_ret
    exact ⟨by rw [HN.out]; rfl, HB1.out⟩
  case true =>
    rw [show errOf true = 0 from rfl]
    have hll : p.bounds.length = l.length := by
      unfold holdsOk at hok
      rw [Bool.and_eq_true, Bool.and_eq_true, beq_iff_eq] at hok
      omega
    by_cases hn : holdsR p l = (p.rules.length : Int)
    · have HY : Hid (solvesB p l = betwB p.bounds l) := Lib.hid (by unfold solvesB; rw [hok, hn]; simp)
      rw [hn]
      have e1 : (((p.rules.length : Nat) : Int) == ((p.rules.length : Nat) : Int)) = true := by simp
      have HBT := Lib.hid (between_any p.bounds l _ _ w1 (HBV.out.below HB1.out hB) (HLV.out.below HB1.out hB) (by omega) (by omega) HUB.out HUL.out)
      clear hok hn
      rw [hll] at HBT c0
      go_wp2_with fail
      refine HBT.out.mono ?_
      rintro e w2 ⟨rfl, hb2⟩
      have HB2 := Lib.hid (HB1.out.trans (hb2.mono HB1.out.size))
      clear hb2 c0 c1
      go_wp2
      go_ret
      exact ⟨by rw [HY.out]; rfl, HB2.out⟩
    · have HN : Hid (solvesB p l = false) := Lib.hid (by unfold solvesB; rw [show (holdsR p l == (p.rules.length : Int)) = false from beq_eq_false_iff_ne.2 hn]; simp)
      obtain ⟨hr, hhr⟩ : ∃ hr, hr = holdsR p l := ⟨_, rfl⟩
      rw [← hhr] at hn ⊢
      have e1 : (hr == ((p.rules.length : Nat) : Int)) = false := beq_eq_false_iff_ne.2 hn
      clear hok hhr hll
      go_wp2
      go_ret
      exact ⟨by rw [HN.out]; rfl, HB1.out⟩
set_option maxRecDepth 100000 in
set_option maxHeartbeats 1000000 in
theorem said_any (v e : Nat) (i : Bool) (r : Int) (yv : Value) (l : List Nat) (lv : Value) (w : World) {B : Nat} (hy : ∃ a n c, yv = .slice a n c) (hl : Us w B lv l) (hB : B ≤ w.heap.size) (hv : v < l.length) (he : e < 12) (hul : ∀ s ∈ l, U64 s) :
    Gives Tryd.prog 50 #[.agg #[.int .i64 v, .int .i64 e, .bool i, .int .i64 r, yv], lv] w (.bool (bitB (nget l v) e == i)) := by
  unfold Gives
  obtain ⟨ya, yn, yc, rfl⟩ := hy
  have hll := hl.1
  obtain ⟨_, a', c', hv', _, _, hr⟩ := hl
  subst hv'
  obtain ⟨lb, lo, rfl, hlb, hcell⟩ := hr (by omega)
  have q0 : w.cell? ⟨lb, lo + v, none⟩ = some (.int .u64 ((nget l v : Nat) : Int)) := hcell v (by omega)
  have hu : U64 (nget l v) := hul _ (by unfold nget; rw [List.getElem?_eq_getElem hv]; exact List.getElem_mem hv)
  obtain ⟨x, hx⟩ : ∃ x, x = nget l v := ⟨_, rfl⟩
  rw [← hx] at q0 hu ⊢
  clear hr hcell hx
  go_enter Tryd.func50, Tryd.ntmps50
  go_upto_region 1 with fail
  refine abs_wp (fun Z => Z.heap[w.heap.size]? = some (.cells #[.int .i64 v, .int .i64 e, .bool i, .int .i64 r, .slice ya yn yc] 56 (0, 0)) ∧ Z.cell? ⟨lb, lo + v, none⟩ = some (.int .u64 ((x : Nat) : Int)) ∧ Below w.heap.size w Z) ⟨heap_new0 _ _, ((Below.new1 w _).cell (p := ⟨lb, _, none⟩) (by show lb < w.heap.size; omega)).trans q0, Below.new1 _ _⟩ ?_
  clear q0
  rintro W ⟨kf, q0, hbW⟩
  have d0 : W.cell? ⟨w.heap.size, 0, none⟩ = some (.int .i64 (v : Int)) := by rw [cell_of_row _ _ _ _ _ _ kf]; rfl
  have d1 : W.cell? ⟨w.heap.size, 1, none⟩ = some (.int .i64 (e : Int)) := by rw [cell_of_row _ _ _ _ _ _ kf]; rfl
  have d2 : W.cell? ⟨w.heap.size, 2, none⟩ = some (.bool i) := by rw [cell_of_row _ _ _ _ _ _ kf]; rfl
  have zf : w.heap.size < W.heap.size := (Array.getElem?_eq_some_iff.1 kf).1
  have zl : lb < W.heap.size := by omega
  have HH := Lib.hid (fun (d : Nat) (os : Array Obj) => Gives.of_same (has_any x e (Go.Sort.grow (redrawn W d) os) hu he))
  have HBW := Lib.hid hbW
  clear kf hbW
  obtain ⟨y, hy⟩ : ∃ y, y = bitB x e := ⟨_, rfl⟩
  rw [← hy] at HH
  have HY := Lib.hid hy
  clear hy
  cases y <;> cases i
  all_goals
    refine wp_region_qb (by kernel_rfl) (by kernel_rfl) ?_
    repeat go_big_quiet_step ((with_reducible exact Gives.quiet (HH.out _ _)))
    refine wpQuiet_nil ?_
    intro w4 hb4
    have HB4 := Lib.hid (HBW.out.trans (hb4.mono HBW.out.size))
    clear hb4
    go_wp2
    go_ret
    exact ⟨by rw [← HY.out]; rfl, HB4.out⟩
set_option maxRecDepth 100000 in
set_option maxHeartbeats 1000000 in
theorem sound1_any (v e : Nat) (i : Bool) (r : Int) (yv : Value) (l : List Nat) (lv : Value) (ps : Nat) (w : World) {B : Nat} (hy : ∃ a n c, yv = .slice a n c) (hl : Us w B lv l) (hB : B ≤ w.heap.size) (hv : v < l.length) (he : e < 12) (hul : ∀ s ∈ l, U64 s) (hps : w.heap[ps]? = some (.cells #[lv] 26 (0, 0))) :
    Gives Tryd.prog 49 #[.agg #[.int .i64 v, .int .i64 e, .bool i, .int .i64 r, yv], .pointer (some ⟨ps, 0, none⟩)] w (.bool (!(bitB (nget l v) e == i))) := by
  unfold Gives
  have HL := Lib.hid hl; have HUL := Lib.hid hul
  obtain ⟨la, lc, rfl⟩ := hl.slice
  obtain ⟨ya, yn, yc, rfl⟩ := hy
  have p0 : w.cell? ⟨ps, 0, none⟩ = some (.slice la l.length lc) := by rw [cell_of_row _ _ _ _ _ _ hps]; rfl
  have zp : ps < w.heap.size := (Array.getElem?_eq_some_iff.1 hps).1
  clear hl hul hps
  have hn := Below.new1 w (.cells #[.int .i64 v, .int .i64 e, .bool i, .int .i64 r, .slice ya yn yc] 56)
  have HN := Lib.hid hn
  have HS := Lib.hid (said_any v e i r (.slice ya yn yc) l _ _ ⟨_, _, _, rfl⟩ (HL.out.below hn hB) (Nat.le_trans hB hn.size) hv he HUL.out)
  clear hn
  go_enter Tryd.func49, Tryd.ntmps49
  go_wp2_with fail
  refine HS.out.mono ?_
  rintro e1 w2 ⟨rfl, hb2⟩
  have HB2 := Lib.hid (HN.out.trans (hb2.mono HN.out.size))
  clear hb2 p0
  go_wp2
  go_ret
  exact ⟨rfl, HB2.out⟩
/-- Some fact does not hold for the sets. -/
def notSaid (fs : List Fact) (l : List Nat) (k : Nat) : Bool := !(bitB (nget l (fget fs k).var.toNat) (fget fs k).elem.toNat == (fget fs k).inn)
theorem notSaid_any (fs : List Fact) (l : List Nat) (fv lv : Value) (ps : Nat) (w : World) {B : Nat} (hf : Fcts w B fv fs) (hl : Us w B lv l) (hB : B ≤ w.heap.size) (hfit : ∀ k, k < fs.length → FitN l.length (fget fs k)) (hul : ∀ s ∈ l, U64 s) (hps : w.heap[ps]? = some (.cells #[lv] 26 (0, 0))) :
    Gives Tryd.prog 48 #[fv, .func (.func 49) #[] #[.pointer (some ⟨ps, 0, none⟩)]] w (.bool ((List.range fs.length).any (notSaid fs l))) := by
  obtain ⟨c, hr, hc⟩ := hf
  refine hasF _ _ c 49 #[.pointer (some ⟨ps, 0, none⟩)] (notSaid fs l) _ hr hB (enters_of Tryd.func49 (by kernel_rfl) rfl) ?_
  intro k hk w' hb
  obtain ⟨h1, h2, h3, h4, h5⟩ := hc k hk
  obtain ⟨v, e, hv, hvl, he, he12⟩ := hfit k hk
  obtain ⟨ya, yc, hyy⟩ := h5.slice
  rw [h1, h2, h3, h4, hyy, hv, he]
  have := sound1_any v e (fget fs k).inn (fget fs k).rule (.slice ya (fget fs k).why.length yc) l lv ps w' ⟨_, _, _, rfl⟩ (hl.below hb hB) (Nat.le_trans hB hb.size) hvl he12 hul (heap_later hps hb (Array.getElem?_eq_some_iff.1 hps).1)
  unfold notSaid
  rw [hv, he]
  exact this
end Go.Proofs.YtilbbnjfaoldoaaDoor
