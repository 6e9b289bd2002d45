/- Package sets: Follows. · Package sets: explained. · Package sets: right, Verify. · The functions of package slices that make and cut rows of ints: Clone, Delete of one. · Package sets: why. · What the propagator computes, in plain Lean: rounds over rules, their facts, and why they end. · The rounds of a propagator, in plain Lean: all rules, all rounds. · Two arrays of bounds, held against each other. -/
import Derived.Test.YtilbbnjfaoldoaaGreatDoorBB
import Derived.Lib.SliceRun
import Derived.Laws.StructEq
namespace Go.Proofs.YtilbbnjfaoldoaaGreatDoor
open Go Go.RowKit
attribute [local go_sem] cell_grow u64_sAnd u64_sOr u64_sDiff sDiff_all zeqI zneI sAnd_bit_zero sAnd_bit_zeroN sAnd_bit_nonzero Oper.semAt_some wide_fn wide_depth rowOf_grow rowOk_grow rowOf_alloc rowOk_alloc

theorem ihas_get {xs : List Int} {x : Int} (h : ihas xs x = true) : ∃ i, i < xs.length ∧ iget xs i = x := by
  unfold ihas at h
  rw [List.contains_iff_mem, List.mem_iff_getElem] at h
  obtain ⟨k, hk, e⟩ := h
  exact ⟨k, hk, by simp [iget, hk, e]⟩
/-- A fact about a variable of its rule: small numbers. -/
theorem about_nat {p : Prob} {f : Fact} (hp : probOk p = true) (h : aboutB p f = true) : ∃ j v e : Nat, f.rule = j ∧ j < p.rules.length ∧ f.var = v ∧ v < 8 ∧ f.elem = e ∧ e < 12 := by
  simp only [aboutB, Bool.and_eq_true] at h
  obtain ⟨⟨h1, h2⟩, h3⟩ := h
  obtain ⟨j, hj, hj2⟩ := inB_nat h1
  obtain ⟨e, he, he2⟩ := inB_nat h3
  obtain ⟨i, hi, hi2⟩ := ihas_get h2
  have hjl : j < p.rules.length := by omega
  rw [hj] at hi hi2
  have hr := ((probOk_fit hp).2.2.2.1 j hjl).2 i hi
  simp only [Int.toNat_natCast] at hi2
  rw [hi2] at hr
  exact ⟨j, f.var.toNat, e, hj, hjl, by omega, by omega, he, by omega⟩
def askedOk (p : Prob) (f : Fact) : Bool := probOk p && aboutB p f && !decide (0 < f.why.length)
def askedR (p : Prob) (f : Fact) : Bool := askedOk p f && followsB (padB p.bounds) (rget p.rules f.rule.toNat) f
end Go.Proofs.YtilbbnjfaoldoaaGreatDoor

namespace Go.Proofs.YtilbbnjfaoldoaaGreatDoor
open Go Go.RowKit
attribute [local go_sem] cell_grow u64_sAnd u64_sOr u64_sDiff sDiff_all zeqI zneI sAnd_bit_zero sAnd_bit_zeroN sAnd_bit_nonzero Oper.semAt_some wide_fn wide_depth rowOf_grow rowOk_grow rowOf_alloc rowOk_alloc

def fget (fs : List Fact) (i : Nat) : Fact := fs[i]?.getD default
/-- A slice of facts. -/
def Fcts (w : World) (B : Nat) (v : Value) (fs : List Fact) : Prop := ∃ c, Row w B 5 v fs.length c ∧ ∀ i, i < fs.length →
  c (i * 5) = .int .i64 (fget fs i).var ∧ c (i * 5 + 1) = .int .i64 (fget fs i).elem ∧ c (i * 5 + 2) = .bool (fget fs i).inn ∧ c (i * 5 + 3) = .int .i64 (fget fs i).rule ∧ Ints w B (c (i * 5 + 4)) (fget fs i).why
theorem Fcts.below {w w' : World} {B : Nat} {v : Value} {xs : List Fact} (h : Fcts w B v xs) {B' : Nat} (hb : Below B' w w') (hB : B ≤ B') : Fcts w' B v xs :=
  let ⟨c, hr, hc⟩ := h
  ⟨c, hr.below hb hB, fun i hi => let ⟨h1, h2, h3, h4, h5⟩ := hc i hi; ⟨h1, h2, h3, h4, h5.below hb hB⟩⟩
theorem Fcts.mono {w : World} {B : Nat} {v : Value} {xs : List Fact} (h : Fcts w B v xs) {B' : Nat} (hB : B ≤ B') : Fcts w B' v xs :=
  let ⟨c, hr, hc⟩ := h
  ⟨c, hr.mono hB, fun i hi => let ⟨h1, h2, h3, h4, h5⟩ := hc i hi; ⟨h1, h2, h3, h4, h5.mono hB⟩⟩
theorem Fcts.slice {w : World} {B : Nat} {v : Value} {xs : List Fact} (h : Fcts w B v xs) : ∃ a c, v = .slice a xs.length c := by obtain ⟨c, ⟨_, a, cap, rfl, _⟩, _⟩ := h; exact ⟨_, _, rfl⟩
theorem Fcts.len {w : World} {B : Nat} {v : Value} {xs : List Fact} (h : Fcts w B v xs) : xs.length ≤ 140737488355328 := by obtain ⟨c, ⟨h, _⟩, _⟩ := h; exact h
theorem fget_take {xs : List Fact} {k i : Nat} (h : i < k) : fget (xs.take k) i = fget xs i := by unfold fget; rw [List.getElem?_take, if_pos h]
theorem Fcts.take {w : World} {B : Nat} {a : Option Addr} {n cap : Nat} {xs : List Fact} (h : Fcts w B (.slice a n cap) xs) {k : Nat} (hk : k ≤ xs.length) : Fcts w B (.slice a k cap) (xs.take k) := by
  obtain ⟨c, hr, hc⟩ := h
  have hn : n = xs.length := by obtain ⟨_, a', cap', hv, _⟩ := hr; cases hv; rfl
  subst hn
  have e : (xs.take k).length = k := by simp; omega
  refine ⟨c, by rw [e]; exact Row.take hr hk, fun i hi => ?_⟩
  rw [fget_take (by omega)]
  exact hc i (by omega)
/-- Where a fact lies in a slice of facts. -/
theorem Fcts.cells {w : World} {B : Nat} {a : Option Addr} {n cap : Nat} {fs : List Fact} (h : Fcts w B (.slice a n cap) fs) {j : Nat} (hj : j < fs.length) :
    ∃ b off vv, a = some ⟨b, off, none⟩ ∧ b < B ∧ Ints w B vv (fget fs j).why ∧ w.cell? ⟨b, off + j * 5, none⟩ = some (.int .i64 (fget fs j).var) ∧ w.cell? ⟨b, off + j * 5 + 1, none⟩ = some (.int .i64 (fget fs j).elem) ∧
      w.cell? ⟨b, off + j * 5 + 2, none⟩ = some (.bool (fget fs j).inn) ∧ w.cell? ⟨b, off + j * 5 + 3, none⟩ = some (.int .i64 (fget fs j).rule) ∧ w.cell? ⟨b, off + j * 5 + 4, none⟩ = some vv := by
  obtain ⟨c, ⟨_, a', cap', hv, _, _, hr⟩, hc⟩ := h
  cases hv
  obtain ⟨b, off, rfl, hbs, hcell⟩ := hr (by omega)
  obtain ⟨e1, e2, e3, e4, e5⟩ := hc j hj
  exact ⟨b, off, _, rfl, hbs, e5, by rw [← e1]; exact hcell (j * 5) (by omega), by rw [← e2]; exact hcell (j * 5 + 1) (by omega), by rw [← e3]; exact hcell (j * 5 + 2) (by omega), by rw [← e4]; exact hcell (j * 5 + 3) (by omega), hcell (j * 5 + 4) (by omega)⟩
theorem bblock_bnds {w : World} {b B : Nat} {bs : List Bnd} {t : TypeId} (h : w.heap[b]? = some (.cells (bCells bs).toArray t (0, 0))) (h8 : bs.length = 8) (hb : b < B) : Bnds w B (.slice (some ⟨b, 0, none⟩) 8 8) bs := by
  unfold Bnds
  rw [h8]
  refine ⟨by decide, _, 8, rfl, Nat.le_refl _, by decide, fun _ => ⟨b, 0, rfl, hb, fun i hi => ?_⟩⟩
  rw [Nat.zero_add]
  exact (bblock h).1 i (by rw [h8]; exact hi)
section
variable {C : World → Prop} {a : Act} {o : Oper}
theorem quiet_loadB {K : Act → Prop} (x : Operand) {b off : Nat} {bs : List Bnd} (ho : o.op = .load 85 x) (hx : a.eval x = .pointer (some ⟨b, off, none⟩))
    (hC : ∀ w', C w' → rowOf w' b off 16 = bCells bs ∧ rowOk w' b off 16 = true) (h : K (a.put o.dst (.agg (bCells bs).toArray))) : o.quiet Tryz.prog a C K := by
  refine ⟨_, fun w hw => ?_, h⟩
  obtain ⟨h1, h2⟩ := hC w hw
  have := run_loadBounds w b off h2
  unfold Oper.quietAt execOp
  simp only [ho, hx, Sem.run_bind, this, Result.andThen_ok, Sem.run_pure, h1, Oper.quietUpon]
  exact ⟨trivial, trivial⟩
end
theorem setCells_at' {A : Nat} {t : TypeId} {fr : Nat × Nat} : ∀ (vs : List Value) (o : Nat) (w : World) (z : Array Value), w.heap[A]? = some (.cells z t fr) → o + vs.length ≤ z.size →
    ∃ z' : Array Value, (w.setCells A o vs).heap[A]? = some (.cells z' t fr) ∧ z'.size = z.size ∧ ∀ i, z'[i]? = if o ≤ i ∧ i < o + vs.length then vs[i - o]? else z[i]?
  | [], o, w, z, h, _ => ⟨z, h, rfl, fun i => by rw [if_neg (by simp only [List.length_nil]; omega)]⟩
  | v :: vs, o, w, z, h, hl => by
    simp only [List.length_cons] at hl
    have h1 : (w.setCell ⟨A, o, none⟩ v).heap[A]? = some (.cells (z.setIfInBounds o v) t fr) := by
      simp only [World.setCell, Array.getElem?_modify, if_true, h, Option.map_some]
      rfl
    obtain ⟨z', e1, e2, e3⟩ := setCells_at' vs (o + 1) _ _ h1 (by simp; omega)
    refine ⟨z', e1, by simpa using e2, fun i => ?_⟩
    rw [e3, List.length_cons]
    by_cases hi : i = o
    · subst hi
      rw [if_neg (by omega), if_pos (by omega), Array.getElem?_setIfInBounds, if_pos rfl, if_pos (by omega)]; simp
    · by_cases h2 : o + 1 ≤ i ∧ i < o + 1 + vs.length
      · rw [if_pos h2, if_pos (by omega), show i - o = (i - (o + 1)) + 1 by omega]; rfl
      · rw [if_neg h2, if_neg (by omega), Array.getElem?_setIfInBounds, if_neg (fun h => hi h.symm)]
theorem setCells_heap {A : Nat} {t : TypeId} {fr : Nat × Nat} {vs : List Value} {w : World} {z : Array Value} (h : w.heap[A]? = some (.cells z t fr)) (hz : z.size = vs.length) : (w.setCells A 0 vs).heap[A]? = some (.cells vs.toArray t fr) := by
  obtain ⟨z', e1, e2, e3⟩ := setCells_at' vs 0 w z h (by omega)
  rw [e1]
  have : z' = vs.toArray := by
    apply Array.ext_getElem?
    intro i
    rw [e3]
    by_cases hi : i < vs.length
    · rw [if_pos (by omega)]; simp
    · rw [if_neg (by omega), Array.getElem?_eq_none (by omega), Array.getElem?_eq_none (by simpa using hi)]
  rw [this]
/-- The whole store of bounds into a block of bounds. -/
theorem store_facts {W : World} {A : Nat} {bs : List Bnd} {z : Array Value} (h8 : bs.length = 8) (h : W.heap[A]? = some (.cells z 85 (0, 0))) (hz : z.size = 16) :
    W.there A 0 (bCells bs).toArray.size ∧ (Tryz.prog.info? 85).map (·.size) = some (bCells bs).toArray.size ∧ (W.setCells A 0 (bCells bs)).heap[A]? = some (.cells (bCells bs).toArray 85 (0, 0)) := by
  have hl : (bCells bs).length = 16 := by rw [bCells_length, h8]
  have hi : (Tryz.prog.info? 85).map (·.size) = some (bCells bs).toArray.size := by rw [List.size_toArray, hl]; kernel_rfl
  exact ⟨fresh_there h (by rw [hz, List.size_toArray, hl]), hi, setCells_heap h (by rw [hz, hl])⟩
/-- A fact about a variable and an element. -/
def FFit (f : Fact) : Prop := ∃ v e : Nat, f.var = v ∧ v < 8 ∧ f.elem = e ∧ e < 12
def stepB (l : List Fact) (b : List Bnd) (k : Int) : List Bnd := withB b (fget l k.toNat).var.toNat (fget l k.toNat).elem.toNat (fget l k.toNat).inn
def whyB (l : List Fact) (b : List Bnd) (why : List Int) : List Bnd := why.foldl (stepB l) b
def explB (p : Prob) (l : List Fact) (f : Fact) : Bool := clashB (whyB l (padB p.bounds) f.why) || followsB (whyB l (padB p.bounds) f.why) (rget p.rules f.rule.toNat) f
theorem whyB_fit {l : List Fact} (hl : ∀ i, i < l.length → FFit (fget l i)) : ∀ (why : List Int) (b : List Bnd), (∀ i, i < why.length → ∃ k : Nat, iget why i = k ∧ k < l.length) → b.length = 8 → S12 b → (whyB l b why).length = 8 ∧ S12 (whyB l b why)
  | [], b, _, h8, hS => ⟨h8, hS⟩
  | k :: why, b, hw, h8, hS => by
    obtain ⟨j, hj, hjl⟩ := hw 0 (by simp)
    have hj' : k = j := hj
    obtain ⟨v, e, hv, hv8, he, he12⟩ := hl j hjl
    refine whyB_fit hl why (stepB l b k) (fun i hi => hw (i + 1) (by simpa using hi)) (by unfold stepB; rw [withB_length, h8]) ?_
    unfold stepB
    exact hS.with (by rw [hj', Int.toNat_natCast, he]; simpa using he12) _
theorem whyB_take_succ (l : List Fact) (b : List Bnd) (why : List Int) (k : Nat) (h : k < why.length) : whyB l b (why.take (k + 1)) = stepB l (whyB l b (why.take k)) (iget why k) := by
  unfold whyB
  rw [List.take_succ_eq_append_getElem h, List.foldl_append]
  simp [iget, h]
set_option maxRecDepth 100000 in
set_option maxHeartbeats 1000000 in
theorem explained_any (p : Prob) (l : List Fact) (f : Fact) (bv rv lv yv : Value) (w : World) {B : Nat} (hbv : Bnds w B bv p.bounds) (hrv : Rls w B rv p.rules) (hlv : Fcts w B lv l) (hyv : Ints w B yv f.why) (hB : B ≤ w.heap.size)
    (hpo : probOk p = true) (hl : ∀ i, i < l.length → FFit (fget l i)) (hw : ∀ i, i < f.why.length → ∃ k : Nat, iget f.why i = k ∧ k < l.length) (hff : FFit f) (j : Nat) (hj : f.rule = j) (hjl : j < p.rules.length) (hT : Tab w) (hw0 : 0 < w.heap.size) :
    Gives Tryz.prog 103 #[.agg #[bv, rv], lv, .agg #[.int .i64 f.var, .int .i64 f.elem, .bool f.inn, .int .i64 f.rule, yv]] w (.bool (explB p l f)) := by
  unfold Gives
  have HBV := Lib.hid hbv; have HRV := Lib.hid hrv; have HLV := Lib.hid hlv; have HYV := Lib.hid hyv; have HT := Lib.hid hT; have HFIT := Lib.hid (probOk_fit hpo); have HL := Lib.hid hl; have HW := Lib.hid hw
  obtain ⟨ba, bc, rfl⟩ := hbv.slice
  obtain ⟨ra, rc, rfl⟩ := hrv.slice
  obtain ⟨la, lc, rfl⟩ := hlv.slice
  obtain ⟨ya, yc, rfl⟩ := hyv.slice
  obtain ⟨v, e, hv, hv8, he, he12⟩ := hff
  clear hbv hrv hlv hyv hT hpo hl hw
  rw [hv, he, hj]
  have hX : explB p l f = (clashB (whyB l (padB p.bounds) f.why) || !possB (withB (whyB l (padB p.bounds) f.why) v e (!f.inn)) (rget p.rules j)) := by unfold explB followsB; rw [hv, he, hj]; rfl
  have HX := Lib.hid hX
  clear hv he hj hX
  go_enter Tryz.func103, Tryz.ntmps103
  go_wp2_with fail
  have hn2 := heap_new2 w (.cells #[.slice ba p.bounds.length bc, .slice ra p.rules.length rc] 25) (.cells #[.int .i64 v, .int .i64 e, .bool f.inn, .int .i64 j, .slice ya f.why.length yc] 56)
  refine (boundsOf_any p _ _ _ (HBV.out.below (Below.new2 _ _ _) hB) ⟨_, _, _, rfl⟩ (by simp; omega) HFIT.out.1 HFIT.out.2.1).mono ?_
  rintro r w1 ⟨rfl, hb1⟩
  have hs1 : w.heap.size + 2 ≤ w1.heap.size := by have := hb1.size; simpa using this
  have k1 := heap_later hn2.1 hb1 (by simp; omega)
  have k2 := heap_later hn2.2 hb1 (by simp)
  have hbw1 : Below w.heap.size w w1 := (Below.new2 _ _ _).trans (hb1.mono (by simp; omega))
  have HB1 := Lib.hid hbw1; have HS1 := Lib.hid hs1; have K1 := Lib.hid k1; have K2 := Lib.hid k2
  clear hb1 hs1 k1 k2 hbw1 hn2
  have hn0 := heap_new0 w1 (.cells (bCells zeroB).toArray 85)
  have hsf := store_facts (padB_length HFIT.out.2.1) hn0 (by rw [List.size_toArray, bCells_length]; rfl)
  have HSF := Lib.hid hsf; clear hsf hn0
  go_wp2_with (refine wpList_store_mid rfl 85 _ _ rfl _ _ _ rfl rfl HSF.out.1 HSF.out.2.1 (all_oneCell_toArray (bCells_one _)) ?_
               generalize hW2 : World.setCells _ _ _ _ = W2
               have k2 : W2.heap[w1.heap.size]? = some (.cells (bCells (padB p.bounds)).toArray 85 (0, 0)) := by rw [← hW2]; exact HSF.out.2.2
               have hb2 : Below w1.heap.size w1 W2 := by rw [← hW2]; exact below_setCells (Nat.le_refl _) _ _ _ (Below.new1 _ _)
               have hs2 : w1.heap.size + 1 ≤ W2.heap.size := by have := (Array.getElem?_eq_some_iff.1 k2).1; omega
               clear hW2
               have d4 : W2.cell? ⟨w.heap.size + 1, 4, none⟩ = some (.slice ya f.why.length yc) := by rw [cell_of_row _ _ _ _ _ _ (heap_later K2.out hb2 (by have := HS1.out; omega))]; rfl)
  have HK := Lib.hid k2; have HB2 := Lib.hid hb2; have HS2 := Lib.hid hs2
  clear k2 hb2 hs2 d4
  go_loopw [15] (fun i wr => ∃ k : Nat, k ≤ f.why.length ∧ i = .int .i64 k ∧ wr.heap[w1.heap.size]? = some (.cells (bCells (whyB l (padB p.bounds) (f.why.take k))).toArray 85 (0, 0)) ∧ Below w1.heap.size w1 wr ∧ w1.heap.size + 1 ≤ wr.heap.size) (fun i _ => f.why.length - (intOf i).toNat)
  case atStart => exact ⟨0, Nat.zero_le _, rfl, HK.out, HB2.out, HS2.out⟩
  case round =>
    obtain ⟨k, hk, rfl, hown, hb, hsz⟩ := hrel
    have hbw := HB1.out.trans (hb.mono HB1.out.size)
    have hq := whyB_fit HL.out (f.why.take k) (padB p.bounds) (fun i hi => by rw [iget_take (by simp at hi; omega)]; exact HW.out i (by simp at hi; omega)) (padB_length HFIT.out.2.1) (S12.pad HFIT.out.2.2.2.2)
    have z0 : w1.heap.size < wr.heap.size := by omega
    have z1 : w.heap.size + 1 < wr.heap.size := by have := HS1.out; omega
    have HN := Lib.hid hown; have HB3 := Lib.hid hb; have HBW := Lib.hid hbw
    clear hown hb hbw
    by_cases hlt : k < f.why.length
    · obtain ⟨q, hqk, hql⟩ := HW.out k hlt
      obtain ⟨_, a', cap', hae, _, _, hrow⟩ := HYV.out
      cases hae
      obtain ⟨yb, yo, rfl, hyb, hycell⟩ := hrow (by omega)
      have y0 : wr.cell? ⟨yb, yo + k, none⟩ = some (.int .i64 q) := by rw [← hqk]; exact rowCell hycell HBW.out (by omega) k (by omega) rfl rfl
      obtain ⟨lb, lo, ov, rfl, hlb, _, l0, l1, l2, _, _⟩ := (HLV.out.below HBW.out hB).cells hql
      obtain ⟨v2, e2, hv2, hv28, he2, he212⟩ := HL.out q hql
      rw [hv2] at l0; rw [he2] at l1
      have z2 : lb < wr.heap.size := by omega
      have hst : whyB l (padB p.bounds) (f.why.take (k + 1)) = withB (whyB l (padB p.bounds) (f.why.take k)) v2 e2 (fget l q).inn := by
        rw [whyB_take_succ _ _ _ _ hlt]; unfold stepB; rw [hqk, Int.toNat_natCast, hv2, he2]; rfl
      have hb8 := hq.1
      have hr := bblock_row hq.1 HN.out
      have hu := hq.2.u64
      have HST := Lib.hid hst; have HR := Lib.hid hr; have HU := Lib.hid hu; have HQ := Lib.hid hq
      clear hst hr hu hq hycell hrow hv2 he2 hqk
      go_wp2
      refine wp_region_qbt 17 (by kernel_rfl) (by kernel_rfl) ?_
      simp only [List.take_succ_cons, List.take_zero, List.drop_succ_cons, List.drop_zero]
      refine wpQuiet_loadB _ rfl rfl rfl (rowQ HR.out z0) ?_
      simp only [Act.put, List.setIfInBounds_toArray, List.set_cons_zero, List.set_cons_succ]
      repeat go_big_quiet_step ((with_reducible exact Gives.quiet (with_any _ v2 e2 _ _ hb8 hv28 (by omega) HU.out)))
      refine wpQuiet_nil ?_
      intro w2 hb2
      have k3 := heap_later HN.out hb2 z0
      have hb3 := HB3.out.trans (hb2.mono HB3.out.size)
      have hsf := store_facts (bs := withB (whyB l (padB p.bounds) (f.why.take k)) v2 e2 (fget l q).inn) (by rw [withB_length, hb8]) k3 (by rw [List.size_toArray, bCells_length, hb8])
      have HSF := Lib.hid hsf; have HB4 := Lib.hid hb3; have HB5 := Lib.hid hb2
      clear hsf hb3 k3 hb2
      go_wp2_with (refine wpList_store_mid rfl 85 _ _ rfl _ _ _ rfl rfl HSF.out.1 HSF.out.2.1 (all_oneCell_toArray (bCells_one _)) ?_)
      go_roundw
      case rel =>
        refine ⟨k + 1, by omega, by go_num, ?_, below_setCells (Nat.le_refl _) _ _ _ HB4.out, ?_⟩
        · rw [HST.out]; exact HSF.out.2.2
        · exact (Array.getElem?_eq_some_iff.1 HSF.out.2.2).1
      case measure => simp [intOf]; omega
    · have hk2 : k = f.why.length := by omega
      subst hk2
      rw [List.take_length] at HN hq
      have hb8 := hq.1
      have hr := bblock_row hq.1 HN.out
      have k1 := heap_later K1.out HB3.out (by have := HS1.out; omega)
      have k2 := heap_later K2.out HB3.out (by have := HS1.out; omega)
      have c1 : wr.cell? ⟨w.heap.size, 1, none⟩ = some (.slice ra p.rules.length rc) := by rw [cell_of_row _ _ _ _ _ _ k1]; rfl
      have d0 : wr.cell? ⟨w.heap.size + 1, 0, none⟩ = some (.int .i64 v) := by rw [cell_of_row _ _ _ _ _ _ k2]; rfl
      have d1 : wr.cell? ⟨w.heap.size + 1, 1, none⟩ = some (.int .i64 e) := by rw [cell_of_row _ _ _ _ _ _ k2]; rfl
      have d2 : wr.cell? ⟨w.heap.size + 1, 2, none⟩ = some (.bool f.inn) := by rw [cell_of_row _ _ _ _ _ _ k2]; rfl
      have d3 : wr.cell? ⟨w.heap.size + 1, 3, none⟩ = some (.int .i64 j) := by rw [cell_of_row _ _ _ _ _ _ k2]; rfl
      have d4 : wr.cell? ⟨w.heap.size + 1, 4, none⟩ = some (.slice ya f.why.length yc) := by rw [cell_of_row _ _ _ _ _ _ k2]; rfl
      have z3 : w.heap.size < wr.heap.size := by omega
      obtain ⟨b, hbdef⟩ : ∃ b, b = whyB l (padB p.bounds) f.why := ⟨_, rfl⟩
      rw [← hbdef] at HN hq hb8 hr HX
      obtain ⟨rb, ro, vv, rfl, hrb, hvv, q0, q1, q2, q3⟩ := (HRV.out.below HBW.out hB).cells hjl
      obtain ⟨va, vc, rfl⟩ := hvv.slice
      have z2 : rb < wr.heap.size := by omega
      have hN := bblock_bnds HN.out hq.1 z0
      have h1 : ∀ d os, Gives Tryz.prog 76 #[.slice (some ⟨w1.heap.size, 0, none⟩) 8 8] (Go.Sort.grow (redrawn wr d) os) (.bool (clashB b)) := fun d os =>
        clash_any b _ _ (hN.below (below_regrown wr d os) (Nat.le_refl _)) (below_regrown wr d os).size hq.2.u64
      have h2 : ∀ d os, Gives Tryz.prog 99 #[.agg (bCells b).toArray, .agg #[.int .i64 (rget p.rules j).kind, .slice va (rget p.rules j).vars.length vc, .int .i64 (rget p.rules j).low, .int .i64 (rget p.rules j).high], .agg #[.int .i64 v, .int .i64 e, .bool f.inn, .int .i64 j, .slice ya f.why.length yc]] (Go.Sort.grow (redrawn wr d) os) (.bool (!possB (withB b v e (!f.inn)) (rget p.rules j))) := fun d os =>
        follows_any _ hb8 hq.2 _ (HFIT.out.2.2.2.1 j hjl) _ v e f.inn j ya _ yc hv8 he12 _ (hvv.below (below_regrown wr d os) (by omega)) (Nat.le_trans hB (below_grow HBW.out d os).size) (HT.out.below (below_grow HBW.out d os) hw0) (Nat.lt_of_lt_of_le hw0 (below_grow HBW.out d os).size)
      have H1 := Lib.hid h1; have H2 := Lib.hid h2; have HR := Lib.hid hr
      clear h1 h2 hvv hr hN hq k1 k2 hbdef
      cases hcl : clashB b <;> rw [hcl] at H1 HX
      case true =>
        go_wp2
        refine wp_region_qb (by kernel_rfl) (by kernel_rfl) ?_
        repeat (first | (go_big_quiet_want; refine quiet_loadB _ rfl rfl (rowQ HR.out z0) ?_; simp only [Act.put, List.setIfInBounds_toArray, List.set_cons_zero, List.set_cons_succ]; go_big_quiet_on) | go_big_quiet_step ((first | (with_reducible exact Gives.quiet (H1.out _ _)) | (with_reducible exact Gives.quiet (H2.out _ _)))))
        refine wpQuiet_nil ?_
        intro w2 hb2
        go_wp2
        go_ret
        exact ⟨by rw [HX.out]; rfl, HBW.out.trans (hb2.mono HBW.out.size)⟩
      case false =>
        go_wp2
        refine wp_region_qb (by kernel_rfl) (by kernel_rfl) ?_
        repeat (first | (go_big_quiet_want; refine quiet_loadB _ rfl rfl (rowQ HR.out z0) ?_; simp only [Act.put, List.setIfInBounds_toArray, List.set_cons_zero, List.set_cons_succ]; go_big_quiet_on) | go_big_quiet_step ((first | (with_reducible exact Gives.quiet (H1.out _ _)) | (with_reducible exact Gives.quiet (H2.out _ _)))))
        refine wpQuiet_nil ?_
        intro w2 hb2
        go_wp2
        go_ret
        exact ⟨by rw [HX.out]; rfl, HBW.out.trans (hb2.mono HBW.out.size)⟩
end Go.Proofs.YtilbbnjfaoldoaaGreatDoor

namespace Go.Proofs.YtilbbnjfaoldoaaGreatDoor
open Go Go.RowKit
attribute [local go_sem] cell_grow u64_sAnd u64_sOr u64_sDiff sDiff_all zeqI zneI sAnd_bit_zero sAnd_bit_zeroN sAnd_bit_nonzero Oper.semAt_some wide_fn wide_depth rowOf_grow rowOk_grow rowOf_alloc rowOk_alloc

def sameF (o f : Fact) : Bool := (o.var == f.var) && (o.elem == f.elem) && (o.inn == f.inn)
def whyAt (n : Nat) (why : List Int) (i : Nat) : Bool := inB (iget why i) 0 ((n : Int) - 1) && !(decide (0 < i) && decide (iget why i ≤ iget why (i - 1)))
def whyOk (n : Nat) (why : List Int) : Bool := (List.range why.length).all (whyAt n why)
def dupF (l : List Fact) (f : Fact) : Bool := (List.range l.length).any fun i => sameF (fget l i) f
def rightB (p : Prob) (l : List Fact) (f : Fact) : Bool := aboutB p f && !dupF l f && whyOk l.length f.why && explB p l f
theorem whyOk_no {n : Nat} {why : List Int} {k : Nat} (hk : k < why.length) (h : whyAt n why k = false) : whyOk n why = false := by
  unfold whyOk
  rw [Bool.eq_false_iff]; intro hc
  rw [List.all_eq_true] at hc
  rw [hc k (List.mem_range.2 hk)] at h; cases h
theorem whyOk_yes {n : Nat} {why : List Int} (h : ∀ j, j < why.length → whyAt n why j = true) : whyOk n why = true := by
  unfold whyOk
  rw [List.all_eq_true]
  exact fun j hj => h j (List.mem_range.1 hj)
theorem whyOk_nat {n : Nat} {why : List Int} (h : whyOk n why = true) : ∀ i, i < why.length → ∃ k : Nat, iget why i = k ∧ k < n := by
  intro i hi
  unfold whyOk at h
  rw [List.all_eq_true] at h
  have := h i (List.mem_range.2 hi)
  simp only [whyAt, Bool.and_eq_true] at this
  obtain ⟨k, hk, hk2⟩ := inB_nat this.1
  exact ⟨k, hk, by omega⟩
/-- The number of the first fact that is not as a proof's. -/
def verI (p : Prob) (l : List Fact) : Int := idxOf (fun i => !rightB p (l.take i) (fget l i)) l.length
def verN (p : Prob) (l : List Fact) : Int := if probOk p && decide (0 ≤ verI p l) then verI p l else 0
def verE (p : Prob) (l : List Fact) : Int := if probOk p then (if 0 ≤ verI p l then 7 else 0) else 2
end Go.Proofs.YtilbbnjfaoldoaaGreatDoor

namespace Go.Proofs.YtilbbnjfaoldoaaGreatDoor
open Go Go.RowKit
attribute [local go_sem] cell_grow Oper.semAt_some

theorem Tryz.info3 : (Tryz.prog.info? 3).map (fun i => (i.zero, i.size, i.bytes)) = some (some (.int .i64 0), 1, 8) := by kernel_rfl
def intV (x : Int) : Value := .int .i64 x
def intsV (xs : List Int) : List Value := xs.map intV
theorem intsV_length (xs : List Int) : (intsV xs).length = xs.length := by simp [intsV]
theorem ints_get (xs : List Int) (i : Nat) (h : i < xs.length) : (intsV xs)[i]? = some (.int .i64 (iget xs i)) := by simp [intsV, intV, iget, h]
theorem ints_one (xs : List Int) : ∀ u ∈ intsV xs, u.oneCell' = true := by intro u hu; obtain ⟨x, _, rfl⟩ := List.mem_map.1 hu; rfl
theorem intsV_take (xs : List Int) (n : Nat) : (intsV xs).take n = intsV (xs.take n) := by simp [intsV, List.map_take]
theorem intsV_append (xs ys : List Int) : intsV xs ++ intsV ys = intsV (xs ++ ys) := by simp [intsV]
/-- A row of ints of the call's own, as a slice of ints. -/
theorem ownsRow_ints {w : World} {base : Nat} {v : Value} {xs : List Int} {n : Nat} (h : w.ownsRow base 3 1 v n (intsV xs)) (hn : n ≤ 140737488355328) (hl : xs.length = n) : Ints w w.heap.size v xs := by
  unfold Ints
  rw [hl]
  exact ownsRow_row h hn fun i hi => ints_get xs i (by omega)
set_option maxRecDepth 100000 in
set_option maxHeartbeats 1000000 in
theorem clone_ints (xs : List Int) (b off n c : Nat) (w : World) {B : Nat} (h : Ints w B (.slice (some ⟨b, off, none⟩) n c) xs) (hsm : xs.length ≤ 1000000) (h0 : 0 < n) :
    Calls Tryz.prog 39 #[.slice (some ⟨b, off, none⟩) n c] w fun e w' => ∃ v', e = .returned v' ∧ w'.ownsRow w.heap.size 3 1 v' n (intsV xs) ∧ Below w.heap.size w w' := by
  obtain ⟨_, a', c', hv, hnc, hcm, hr⟩ := h
  cases hv
  obtain ⟨b', off', hae, hbB, hcell⟩ := hr h0
  cases hae
  obtain ⟨i0, hi, hz0, hz1, hz2⟩ := info_parts Tryz.info3
  have q22 : ∀ (w : World) (a : Option Addr) (n c n' c' : Nat), (binOp .eql 40 (.slice a n c) (.slice none n' c')).run Tryz.prog w = .ok (.bool a.isNone) w := fun w a n c n' c' => Lib.run_eql_slice_nil w _ _ a n c n' c' Tryz.underlying40
  have HC := Lib.hid hcell
  clear hr hcell
  go_enter Tryz.func39, Tryz.ntmps39
  go_wp2_with (at_builtin; refine wpList_append_own _ rfl _ _ 40 rfl w.heap.size 3 i0 (.int .i64 0) 1 8 Tryz.underlying40 hi hz0 hz1 hz2 rfl (by decide) _ _ _ rfl (World.ownsRow_made w #[] 0 (Nat.le_refl _) (Nat.zero_le _) rfl) ⟨b, off, none⟩ xs.length c (intsV xs) rfl (by rw [intsV_length]; omega) ?qc2 ?qc3 ?qc4 ?qc5 (by simp) ?_)
  case qc2 =>
    intro j u hj
    have hjl : j < xs.length := by have := (List.getElem?_eq_some_iff.1 hj).1; rwa [intsV_length] at this
    rw [ints_get xs j hjl] at hj
    cases hj
    show (w.alloc _).cell? ⟨b, off + j, none⟩ = _
    exact ((Below.new1 w _).cell (p := ⟨b, off + j, none⟩) (World.block_lt_of_cell? w ⟨b, off + j, none⟩ (HC.out j (by omega)))).trans (HC.out j (by omega))
  case qc3 => exact ints_one xs
  case qc4 => unfold maxLen; omega
  case qc5 => omega
  intro v' w1 hown hgrow _
  have hb := (Below.new1 w (.cells #[] 3)).grown hgrow (by simp) (fun q hq => by simp [Value.ownBlock] at hq; omega)
  clear hgrow
  go_wp2
  go_ret
  exact ⟨_, rfl, hown, hb⟩
theorem own_cell {w : World} {base g k cap : Nat} {e : TypeId} {xs : List Value} (h : w.ownsRow base e 1 (.slice (some ⟨g, 0, none⟩) k cap) k xs) {j : Nat} (hj : j < cap) : (w.cell? ⟨g, j, none⟩).isSome = true ∧ w.frozen? ⟨g, j, none⟩ = false := by
  rcases h.2 with ⟨h, _⟩ | ⟨g', cap', cur, h, hbg, hg, h1, h2, h3, h4⟩
  · simp at h
  · simp only [Value.slice.injEq, Option.some.injEq, Addr.mk.injEq, and_true, true_and] at h
    obtain ⟨rfl, rfl⟩ := h
    refine ⟨?_, by simp [World.frozen?, hg]⟩
    rw [cell_of_row _ _ _ _ _ _ hg, Array.getElem?_eq_getElem (by rw [h3, Nat.mul_one]; exact hj)]; rfl
theorem zero3 : ∀ w, (zeroValue 3).run Tryz.prog w = .ok (.int .i64 0) w := by
  intro w
  obtain ⟨i0, hi0, hz0, _, _⟩ := info_parts Tryz.info3
  simp [zeroValue, typeInfo, Sem.run_bind, hi0, hz0]
theorem clear_one (g k cap base m n c ty : Nat) (w : World) {xs : List Value} (h : w.ownsRow base 3 1 (.slice (some ⟨g, 0, none⟩) k cap) k xs) (hm : m < cap) (hn : n = 1) :
    (Builtin.clear_ #[40] ty #[.slice (some ⟨g, m, none⟩) n c]).run Tryz.prog w = .ok (.tuple #[]) (w.setCell ⟨g, m, none⟩ (.int .i64 0)) := by
  subst hn
  have hc := own_cell h hm
  exact Lib.run_clear_slice w _ _ ty _ Tryz.underlying40 zero3 rfl rfl g m _ _ (by omega) (fun j hj => (show j = 0 by omega) ▸ hc.1) (fun j hj => (show j = 0 by omega) ▸ hc.2)
set_option maxRecDepth 100000 in
set_option maxHeartbeats 1000000 in
/-- Delete of the one at i, in a row of the call's own. -/
theorem delete_ints (xs : List Int) (g n cap i base : Nat) (w : World) (hown : w.ownsRow base 3 1 (.slice (some ⟨g, 0, none⟩) n cap) n (intsV xs)) (hi : i < n) :
    Calls Tryz.prog 38 #[.slice (some ⟨g, 0, none⟩) n cap, .int .i64 i, .int .i64 ((i : Int) + 1)] w fun e w' => e = .returned (.slice (some ⟨g, 0, none⟩) (n - 1) cap) ∧
      w'.ownsRow base 3 1 (.slice (some ⟨g, 0, none⟩) (n - 1) cap) (n - 1) (intsV (xs.eraseIdx i)) ∧ Below g w w' := by
  have hxl : xs.length = n := by have := hown.1; rw [intsV_length] at this; omega
  obtain ⟨i0, hi0, hz0, hz1, hz2⟩ := info_parts Tryz.info3
  obtain ⟨hnc, hcm, cur, hg, hcs, htk⟩ : n ≤ cap ∧ cap ≤ maxLen ∧ ∃ cur : Array Value, w.heap[g]? = some (.cells cur 3 (0, 0)) ∧ cur.size = cap ∧ cur.toList.take n = intsV xs := by
    rcases hown.2 with ⟨h, _⟩ | ⟨g', cap', cur, h, hbg, hg, h1, h2, h3, h4⟩
    · simp at h
    · simp only [Value.slice.injEq, Option.some.injEq, Addr.mk.injEq, and_true, true_and] at h
      obtain ⟨rfl, rfl⟩ := h
      exact ⟨h1, h2, cur, hg, by simpa using h3, by simpa using h4⟩
  have hbg := (hown.lt g rfl).1
  have hown1 : w.ownsRow base 3 1 (.slice (some ⟨g, 0, none⟩) i cap) i (intsV (xs.take i)) :=
    ⟨by rw [intsV_length]; simp; omega, .inr ⟨g, cap, cur, rfl, hbg, hg, by omega, hcm, by simpa using hcs, by rw [Nat.mul_one, ← intsV_take, ← htk, List.take_take]; congr 1; omega⟩⟩
  have hmax : cap ≤ 9223372036854775807 := by unfold maxLen at hcm; omega
  have HOW := Lib.hid hown1; have HG := Lib.hid hg; have HCS := Lib.hid hcs; have HTK := Lib.hid htk; have HBG := Lib.hid hbg
  clear hown hown1 hg hcs htk hbg
  go_enter Tryz.func38, Tryz.ntmps38
  go_wp2
  refine wp_region_qbt 6 (by kernel_rfl) (by kernel_rfl) ?_
  simp only [List.take_succ_cons, List.take_zero, List.drop_succ_cons, List.drop_zero]
  repeat go_big_quiet_step (fail)
  refine wpQuiet_nil ?_
  intro w2 hb2
  have hown2 : w2.ownsRow base 3 1 (.slice (some ⟨g, 0, none⟩) i cap) i (intsV (xs.take i)) := HOW.out.kept (row := none) ⟨hb2.os, hb2.tape, hb2.output, hb2.size, fun k hk _ => hb2.block k hk⟩ (.inr (by simp [Value.ownBlock]))
  have hsrc : ∀ ad, (if cap = i + 1 then some (⟨g, 0, none⟩ : Addr) else some ⟨g, i + 1, none⟩) = some ad → ∀ j u, (intsV (xs.drop (i + 1)))[j]? = some u → w2.cell? (ad.add j) = some u := by
    intro ad had j u hj
    have hjl : j < n - (i + 1) := by have := (List.getElem?_eq_some_iff.1 hj).1; rw [intsV_length] at this; simp at this; omega
    rw [if_neg (by omega)] at had
    cases had
    rw [Addr.add_lit, (hb2.cell (p := ⟨g, i + 1 + j, none⟩) (Array.getElem?_eq_some_iff.1 HG.out).1), cell_of_row _ _ _ _ _ _ HG.out]
    have h1 : (cur.toList.take n)[i + 1 + j]? = (intsV xs)[i + 1 + j]? := by rw [HTK.out]
    rw [List.getElem?_take, if_pos (by omega)] at h1
    have h2 : (intsV (xs.drop (i + 1)))[j]? = (intsV xs)[i + 1 + j]? := by simp [intsV, List.getElem?_drop]
    rw [h2] at hj
    rw [← hj, ← h1]; simp
  have HO2 := Lib.hid hown2; have HSRC := Lib.hid hsrc; have HB2 := Lib.hid hb2
  clear hown2 hsrc hb2
  go_wp2_with (at_builtin; refine wpList_append_fits_any _ rfl _ _ 40 rfl base 3 i0 1 Tryz.underlying40 hi0 hz1 g i cap _ rfl HO2.out _ (n - (i + 1)) _ (intsV (xs.drop (i + 1))) rfl (by rw [intsV_length]; simp; omega) (by intro h; split at h <;> cases h) HSRC.out (ints_one _) (by omega) ?_; intro w3 hown3 hgrow3; have hcl := fun ty c => clear_one g _ cap base (i + (n - (i + 1))) (n - (i + (n - (i + 1)))) c ty w3 hown3 (by omega) (by omega))
  all_goals
    have hm : i + (n - (i + 1)) = n - 1 := by omega
    have he : intsV (xs.take i) ++ intsV (xs.drop (i + 1)) = intsV (xs.eraseIdx i) := by rw [intsV_append, List.eraseIdx_eq_take_drop_succ]
    have s := (hown3.stored (i + (n - (i + 1))) (.int .i64 0)).1
    rw [he] at s
    rw [List.set_eq_of_length_le (by rw [intsV_length, List.length_eraseIdx]; split <;> omega)] at s
    have hb := ((HB2.out.mono (Nat.le_of_lt (Array.getElem?_eq_some_iff.1 HG.out).1)).grown hgrow3 (Nat.le_trans (Nat.le_of_lt (Array.getElem?_eq_some_iff.1 HG.out).1) HB2.out.size) (fun q hq => by cases hq; exact Nat.le_refl _)).setCell (p := ⟨g, i + (n - (i + 1)), none⟩) (Nat.le_refl _) (.int .i64 0)
    try rw [h] at s
    go_ret
    refine ⟨by rw [← hm]; rfl, ?_, hb⟩
    simpa only [hm] using s
end Go.Proofs.YtilbbnjfaoldoaaGreatDoor

namespace Go.Proofs.YtilbbnjfaoldoaaGreatDoor
open Go Go.RowKit
attribute [local go_sem] cell_grow u64_sAnd u64_sOr u64_sDiff sDiff_all zeqI zneI sAnd_bit_zero sAnd_bit_zeroN sAnd_bit_nonzero Oper.semAt_some wide_fn wide_depth rowOf_grow rowOk_grow rowOf_alloc rowOk_alloc

/-- The cells of a propagator. -/
def propC (bv rv : Value) (now : List Bnd) (fv : Value) (rs : Bool) : List Value := [bv, rv] ++ (bCells now ++ [fv, .bool rs])
theorem propC_length {bv rv : Value} {now : List Bnd} {fv : Value} {rs : Bool} (h8 : now.length = 8) : (propC bv rv now fv rs).length = 20 := by simp [propC, bCells_length, h8]
theorem propC_cells {w : World} {x : Nat} {t : TypeId} {bv rv fv : Value} {now : List Bnd} {rs : Bool} (h8 : now.length = 8) (h : w.heap[x]? = some (.cells (propC bv rv now fv rs).toArray t (0, 0))) :
    w.cell? ⟨x, 0, none⟩ = some bv ∧ w.cell? ⟨x, 1, none⟩ = some rv ∧ (∀ i, i < 16 → w.cell? ⟨x, 2 + i, none⟩ = some (bcellAt now i)) ∧ w.cell? ⟨x, 18, none⟩ = some fv ∧ w.cell? ⟨x, 19, none⟩ = some (.bool rs) ∧ ∀ i, w.frozen? ⟨x, i, none⟩ = false := by
  have hl : (bCells now).length = 16 := by rw [bCells_length, h8]
  refine ⟨by rw [cell_of_row _ _ _ _ _ _ h]; rfl, by rw [cell_of_row _ _ _ _ _ _ h]; rfl, fun i hi => ?_, ?_, ?_, fun i => by simp [World.frozen?, h]⟩
  · rw [cell_of_row _ _ _ _ _ _ h, List.getElem?_toArray, propC, List.getElem?_append_right (by simp), List.getElem?_append_left (by simp; omega)]
    simp only [List.length_cons, List.length_nil, Nat.reduceAdd, Nat.add_sub_cancel_left]
    exact bCells_get _ _ (by rw [h8]; exact hi)
  · rw [cell_of_row _ _ _ _ _ _ h, List.getElem?_toArray, propC, List.getElem?_append_right (by simp), List.getElem?_append_right (by simp; omega)]
    simp [hl]
  · rw [cell_of_row _ _ _ _ _ _ h, List.getElem?_toArray, propC, List.getElem?_append_right (by simp), List.getElem?_append_right (by simp; omega)]
    simp [hl]
def why0 (p : Prob) (l : List Fact) (j : Nat) : Nat → List Int
  | 0 => []
  | k + 1 => if ihas (rget p.rules j).vars (fget l k).var then why0 p l j k ++ [(k : Int)] else why0 p l j k
def whyRed (p : Prob) (l : List Fact) (f : Fact) : Nat → List Int → List Int
  | 0, ws => ws
  | i + 1, ws => whyRed p l f i (if explB p l { f with why := ws.eraseIdx i } then ws.eraseIdx i else ws)
def whyOf (p : Prob) (l : List Fact) (f : Fact) : List Int := whyRed p l f (why0 p l f.rule.toNat l.length).length (why0 p l f.rule.toNat l.length)
def NatsB (n : Nat) (ws : List Int) : Prop := ∀ x ∈ ws, ∃ k : Nat, x = k ∧ k < n
theorem NatsB.get {n : Nat} {ws : List Int} (h : NatsB n ws) (i : Nat) (hi : i < ws.length) : ∃ k : Nat, iget ws i = k ∧ k < n := by
  have := h ws[i] (List.getElem_mem hi)
  simpa [iget, hi] using this
theorem NatsB.erase {n : Nat} {ws : List Int} (h : NatsB n ws) (i : Nat) : NatsB n (ws.eraseIdx i) := fun x hx => h x (List.mem_of_mem_eraseIdx hx)
theorem why0_nats (p : Prob) (l : List Fact) (j n : Nat) : ∀ k, k ≤ n → NatsB n (why0 p l j k)
  | 0, _ => fun x hx => by cases hx
  | k + 1, hk => by
    unfold why0
    split
    · intro x hx
      rcases List.mem_append.1 hx with h | h
      · exact why0_nats p l j n k (by omega) x h
      · exact ⟨k, List.mem_singleton.1 h, by omega⟩
    · exact why0_nats p l j n k (by omega)
theorem why0_length (p : Prob) (l : List Fact) (j : Nat) : ∀ k, (why0 p l j k).length ≤ k
  | 0 => Nat.le_refl _
  | k + 1 => by
    have := why0_length p l j k
    unfold why0
    split
    · simp; omega
    · omega
theorem own_mono {w : World} {base base' : Nat} {e : TypeId} {size : Nat} {v : Value} {n : Nat} {xs : List Value} (h : w.ownsRow base e size v n xs) (hb : base' ≤ base) : w.ownsRow base' e size v n xs := by
  refine ⟨h.1, ?_⟩
  rcases h.2 with h2 | ⟨g, cap, cur, hv, hg, r⟩
  · exact .inl h2
  · exact .inr ⟨g, cap, cur, hv, Nat.le_trans hb hg, r⟩
theorem Slice.own_succ {W : World} {base : Nat} {e : TypeId} {size : Nat} {v : Value} {k : Nat} {xs : List Value} (h : W.ownsRow base e size v (k + 1) xs) : ∃ g cap, v = .slice (some ⟨g, 0, none⟩) (k + 1) cap := by
  rcases h.2 with ⟨_, h0⟩ | ⟨g, cap, cur, rfl, _⟩
  · cases h0
  · exact ⟨g, cap, rfl⟩
set_option maxRecDepth 100000 in
set_option maxHeartbeats 1000000 in
theorem why_any (p : Prob) (l : List Fact) (v e j : Nat) (inn : Bool) (now : List Bnd) (rs : Bool) (bv rv lv : Value) (x : Nat) (w : World) {B : Nat} (hbv : Bnds w B bv p.bounds) (hrv : Rls w B rv p.rules) (hlv : Fcts w B lv l) (hB : B ≤ w.heap.size)
    (hx : w.heap[x]? = some (.cells (propC bv rv now lv rs).toArray 91 (0, 0))) (h8 : now.length = 8) (hpo : probOk p = true) (hl : ∀ i, i < l.length → FFit (fget l i)) (hln : l.length ≤ 100000) (hv8 : v < 8) (he : e < 12) (hjl : j < p.rules.length) (hT : Tab w) (hw0 : 0 < w.heap.size) :
    Calls Tryz.prog 100 #[.pointer (some ⟨x, 0, none⟩), .agg #[.int .i64 v, .int .i64 e, .bool inn, .int .i64 j, .slice none 0 0]] w fun r w' =>
      ∃ yv, r = .returned yv ∧ w'.ownsRow w.heap.size 3 1 yv (whyOf p l ⟨v, e, inn, j, []⟩).length (intsV (whyOf p l ⟨v, e, inn, j, []⟩)) ∧ Below w.heap.size w w' := by
  have HBV := Lib.hid hbv; have HRV := Lib.hid hrv; have HLV := Lib.hid hlv; have HT := Lib.hid hT; have HPO := Lib.hid hpo; have HL := Lib.hid hl; have HX := Lib.hid hx
  obtain ⟨ba, bc, rfl⟩ := hbv.slice
  obtain ⟨ra, rc, rfl⟩ := hrv.slice
  obtain ⟨la, lc, rfl⟩ := hlv.slice
  have hxl : x < w.heap.size := (Array.getElem?_eq_some_iff.1 hx).1
  obtain ⟨i0, hin, hz0, hz1, hz2⟩ := info_parts Tryz.info3
  have x18 : w.cell? ⟨x, 18, none⟩ = some (.slice la l.length lc) := (propC_cells h8 hx).2.2.2.1
  clear hbv hrv hlv hT hpo hl hx
  go_enter Tryz.func100, Tryz.ntmps100
  go_wp2
  refine abs_wp (fun W => W.heap[w.heap.size]? = some (.cells #[.int .i64 v, .int .i64 e, .bool inn, .int .i64 j, .slice none 0 0] 56 (0, 0)) ∧ Below w.heap.size w W ∧ w.heap.size + 1 = W.heap.size) ⟨heap_new0 _ _, Below.new1 _ _, by simp⟩ ?_
  rintro W ⟨k0, hb0, hs0⟩
  have HK0 := Lib.hid k0; have HB0 := Lib.hid hb0; have HS0 := Lib.hid hs0
  clear k0 hb0 hs0 x18
  go_loopw [14] (fun i wr => ∃ k : Nat, ∃ yv, k ≤ l.length ∧ i = .int .i64 k ∧ wr.heap[w.heap.size]? = some (.cells #[.int .i64 v, .int .i64 e, .bool inn, .int .i64 j, yv] 56 (0, 0)) ∧
    wr.ownsRow (w.heap.size + 1) 3 1 yv (why0 p l j k).length (intsV (why0 p l j k)) ∧ Below w.heap.size w wr ∧ w.heap.size + 1 ≤ wr.heap.size) (fun i _ => l.length - (intOf i).toNat)
  case atStart => exact ⟨0, _, Nat.zero_le _, rfl, HK0.out, World.ownsRow_nil _ _ _ _, HB0.out, by have := HS0.out; omega⟩
  case round =>
    obtain ⟨k, yv, hk, rfl, hF, hown, hbw, hsz⟩ := hrel
    have x0 := propC_cells h8 (heap_later HX.out hbw hxl)
    have x1 := x0.2.1
    have z0 : x < wr.heap.size := by omega
    have z1 : w.heap.size < wr.heap.size := by omega
    have HF := Lib.hid hF; have HOW := Lib.hid hown; have HBW := Lib.hid hbw
    by_cases hlt : k < l.length
    · have d3 : wr.cell? ⟨w.heap.size, 3, none⟩ = some (.int .i64 j) := by rw [cell_of_row _ _ _ _ _ _ hF]; rfl
      obtain ⟨lb, lo, ov, rfl, hlb, hov, l0, l1, l2, l3, l4⟩ := (HLV.out.below hbw hB).cells hlt
      obtain ⟨oa, oc, rfl⟩ := hov.slice
      obtain ⟨rb, ro, vv, rfl, hrb, hvv, q0, q1, q2, q3⟩ := (HRV.out.below hbw hB).cells hjl
      obtain ⟨va, vc, rfl⟩ := hvv.slice
      have HVV := Lib.hid hvv
      clear hF hown hbw hov hvv x0
      go_wp2
      refine abs_wp (fun W => W.heap[wr.heap.size]? = some (.cells #[.int .i64 (fget l k).var, .int .i64 (fget l k).elem, .bool (fget l k).inn, .int .i64 (fget l k).rule, .slice oa (fget l k).why.length oc] 56 (0, 0)) ∧ Below wr.heap.size wr W ∧ wr.heap.size + 1 = W.heap.size) ⟨heap_new0 _ _, Below.new1 _ _, by simp⟩ ?_
      rintro W2 ⟨g0, hb3, hs3⟩
      have e0 : W2.cell? ⟨wr.heap.size, 0, none⟩ = some (.int .i64 (fget l k).var) := by rw [cell_of_row _ _ _ _ _ _ g0]; rfl
      rw [← (bcell hb3).1 _ _ z1] at d3
      rw [← (bcell hb3).1 _ _ z0] at x1
      rw [← (bcell hb3).1 _ _ (by omega)] at q1
      have y0 : x < W2.heap.size := by omega
      have y1 : w.heap.size < W2.heap.size := by omega
      have y2 : rb < W2.heap.size := by omega
      have y3 : wr.heap.size < W2.heap.size := by omega
      have hc : ∀ d os, Gives Tryz.prog 84 #[.slice va (rget p.rules j).vars.length vc, .int .i64 (fget l k).var] (Go.Sort.grow (redrawn W2 d) os) (.bool (ihas (rget p.rules j).vars (fget l k).var)) := fun d os =>
        Gives.of_same (contains_ints _ _ _ _ (HVV.out.below (hb3.trans ((below_regrown W2 d os).mono hb3.size)) (by omega)))
      have HC := Lib.hid hc; have HB3 := Lib.hid hb3
      clear hc hb3 g0 l0 l1 l2 l3 l4 q0 q2 q3
      cases hi : ihas (rget p.rules j).vars (fget l k).var <;> rw [hi] at HC
      case false =>
        have hwy : why0 p l j (k + 1) = why0 p l j k := by rw [why0, hi]; rfl
        refine wp_region_qb (by kernel_rfl) (by kernel_rfl) ?_
        repeat go_big_quiet_step ((with_reducible exact Gives.quiet (HC.out _ _)))
        refine wpQuiet_nil ?_
        intro w2 hb2
        have hb := HB3.out.trans (hb2.mono HB3.out.size)
        have hF2 := heap_later HF.out hb z1
        have ho2 := HOW.out.kept (row := none) ⟨hb.os, hb.tape, hb.output, hb.size, fun k hk _ => hb.block k hk⟩ (by cases hob : yv.ownBlock; exact .inl rfl; exact .inr (by simp))
        have hbf := HBW.out.trans (hb.mono HBW.out.size)
        have hsf := hb.size
        clear hb hb2
        go_wp2
        go_roundw
        case rel => exact ⟨k + 1, yv, by omega, by go_num, hF2, by rw [hwy]; exact ho2, hbf, by omega⟩
        case measure => simp [intOf]; omega
      case true =>
        have hwy : why0 p l j (k + 1) = why0 p l j k ++ [(k : Int)] := by rw [why0, hi]; rfl
        refine wp_region_qb (by kernel_rfl) (by kernel_rfl) ?_
        repeat go_big_quiet_step ((with_reducible exact Gives.quiet (HC.out _ _)))
        refine wpQuiet_nil ?_
        intro w2 hb2
        have hb := HB3.out.trans (hb2.mono HB3.out.size)
        have hF2 := heap_later HF.out hb z1
        have ho2 := HOW.out.kept (row := none) ⟨hb.os, hb.tape, hb.output, hb.size, fun k hk _ => hb.block k hk⟩ (by cases hob : yv.ownBlock; exact .inl rfl; exact .inr (by simp))
        have hbf := HBW.out.trans (hb.mono HBW.out.size)
        have hsf := hb.size
        have d4 : w2.cell? ⟨w.heap.size, 4, none⟩ = some yv := by rw [cell_of_row _ _ _ _ _ _ hF2]; rfl
        have f4 : w2.frozen? ⟨w.heap.size, 4, none⟩ = false := by simp [World.frozen?, hF2]
        clear hb hb2
        have hwl := why0_length p l j k
        go_wp2_with (at_builtin; refine wpList_append_own _ rfl _ _ 40 rfl (w.heap.size + 1) 3 i0 (.int .i64 0) 1 8 Tryz.underlying40 hin hz0 hz1 hz2 rfl (by decide) _ _ _ rfl (ho2.alloc _) ⟨w2.heap.size, 0, none⟩ 1 1 (intsV [(k : Int)]) rfl rfl ?c1 ?c2 ?c3 ?c4 ?c5 ?_)
        case c1 =>
          intro q u hq
          match q, hq with
          | 0, hq => cases hq; rw [Addr.add_lit]; exact cell_of_one (heap_new0 _ _)
        case c2 => exact ints_one _
        case c3 => unfold maxLen; omega
        case c4 => omega
        case c5 => simp; omega
        intro v' w3 hown3 hgrow3 _
        have hF3 : w3.heap[w.heap.size]? = some (.cells #[.int .i64 v, .int .i64 e, .bool inn, .int .i64 j, yv] 56 (0, 0)) :=
          (hgrow3.block _ (by simp; omega) (fun hh => by have := (ho2.lt _ hh.symm).1; omega)).trans (heap_old hF2)
        have hb3 := (hbf.alloc hbf.size (.cells #[.int .i64 k] 3)).grown hgrow3 (by simp; omega) (fun q hq => by have := (ho2.lt q hq).1; omega)
        have hne : v'.ownBlock ≠ some w.heap.size := fun hh => by have := (hown3.lt _ hh).1; omega
        have g4 : w3.cell? ⟨w.heap.size, 4, none⟩ = some yv := by rw [cell_of_row _ _ _ _ _ _ hF3]; rfl
        have g4f : w3.frozen? ⟨w.heap.size, 4, none⟩ = false := by simp [World.frozen?, hF3]
        have hsz3 : w.heap.size + 1 ≤ w3.heap.size := by have := hgrow3.size; simp at this; omega
        rw [intsV_append] at hown3
        clear hgrow3
        obtain ⟨g5, cp, rfl⟩ := Slice.own_succ hown3
        go_wp2
        go_roundw
        case rel =>
          refine ⟨k + 1, .slice (some ⟨g5, 0, none⟩) ((why0 p l j k).length + 1) cp, by omega, by go_num, ?_, ?_, hb3.setCell (Nat.le_refl _) _, by simpa using hsz3⟩
          · simp only [World.setCell, Array.getElem?_modify, if_true, hF3, Option.map_some]; rfl
          · rw [hwy]
            simpa using ownsRow_setCell_other hown3 (a := ⟨w.heap.size, 4, none⟩) hne _
        case measure => simp [intOf]; omega
    · have hk2 : k = l.length := by omega
      subst hk2
      have hws := why0_nats p l j l.length l.length (Nat.le_refl _)
      have hwl := why0_length p l j l.length
      have hwo : whyOf p l ⟨v, e, inn, j, []⟩ = whyRed p l ⟨v, e, inn, j, []⟩ (why0 p l j l.length).length (why0 p l j l.length) := by unfold whyOf; simp
      obtain ⟨ws, hwsd⟩ : ∃ ws, ws = why0 p l j l.length := ⟨_, rfl⟩
      rw [← hwsd] at hws hwl hwo hown
      have hin2 : Ints wr wr.heap.size yv ws := ownsRow_ints hown (by omega) rfl
      obtain ⟨ya, yc, rfl⟩ := hin2.slice
      have d4 : wr.cell? ⟨w.heap.size, 4, none⟩ = some (.slice ya ws.length yc) := by rw [cell_of_row _ _ _ _ _ _ hF]; rfl
      have HWS := Lib.hid hws; have HIN := Lib.hid hown; have HWO := Lib.hid hwo
      clear hws hin2 hwo hwsd hF hown hbw x0 x1 HOW
      go_wp2
      clear d4
      go_loopw [7] (fun i wr => ∃ m : Nat, ∃ ws yv, i = .int .i64 ((m : Int) - 1) ∧ m ≤ ws.length ∧ ws.length ≤ l.length ∧ whyOf p l ⟨v, e, inn, j, []⟩ = whyRed p l ⟨v, e, inn, j, []⟩ m ws ∧ NatsB l.length ws ∧ wr.heap[w.heap.size]? = some (.cells #[.int .i64 v, .int .i64 e, .bool inn, .int .i64 j, yv] 56 (0, 0)) ∧
        wr.ownsRow (w.heap.size + 1) 3 1 yv ws.length (intsV ws) ∧ Below w.heap.size w wr ∧ w.heap.size + 1 ≤ wr.heap.size) (fun i _ => (intOf i + 1).toNat)
      case atStart => exact ⟨ws.length, ws, _, rfl, Nat.le_refl _, hwl, HWO.out, HWS.out, HF.out, HIN.out, HBW.out, hsz⟩
      case round =>
        clear HF HWS HIN HWO HBW
        obtain ⟨m, ws, yv, rfl, hm, hwl, hwo, hws, hF, hown2, hbw, hsz⟩ := hrel
        have hin2 : Ints wr wr.heap.size yv ws := ownsRow_ints hown2 (by omega) rfl
        obtain ⟨ya, yc, rfl⟩ := hin2.slice
        have d4 : wr.cell? ⟨w.heap.size, 4, none⟩ = some (.slice ya ws.length yc) := by rw [cell_of_row _ _ _ _ _ _ hF]; rfl
        rcases m with _ | m
        · have hfin : wr.ownsRow w.heap.size 3 1 (.slice ya ws.length yc) (whyOf p l ⟨v, e, inn, j, []⟩).length (intsV (whyOf p l ⟨v, e, inn, j, []⟩)) := by rw [hwo]; exact own_mono hown2 (by omega)
          have HFI := Lib.hid hfin; have HBW := Lib.hid hbw
          clear hwo hws hF hin2 hbw hfin hown2
          go_wp2
          go_ret
          exact ⟨_, rfl, HFI.out, HBW.out⟩
        · have e7 : (((m + 1 : Nat) : Int) - 1) = m := by omega
          rw [e7]
          obtain ⟨_, a', c', hae, hnc, hcm, hrow⟩ := hin2
          cases hae
          obtain ⟨yb, yo, rfl, hyb, hycell⟩ := hrow (by omega)
          have hin2 : Ints wr wr.heap.size (.slice (some ⟨yb, yo, none⟩) ws.length yc) ws := ⟨by omega, _, _, rfl, hnc, hcm, hrow⟩
          have d0 : wr.cell? ⟨w.heap.size, 0, none⟩ = some (.int .i64 v) := by rw [cell_of_row _ _ _ _ _ _ hF]; rfl
          have d1 : wr.cell? ⟨w.heap.size, 1, none⟩ = some (.int .i64 e) := by rw [cell_of_row _ _ _ _ _ _ hF]; rfl
          have d2 : wr.cell? ⟨w.heap.size, 2, none⟩ = some (.bool inn) := by rw [cell_of_row _ _ _ _ _ _ hF]; rfl
          have d3 : wr.cell? ⟨w.heap.size, 3, none⟩ = some (.int .i64 j) := by rw [cell_of_row _ _ _ _ _ _ hF]; rfl
          have HF := Lib.hid hF; have HIN := Lib.hid hin2; have HWS := Lib.hid hws; have HWO := Lib.hid hwo; have HBW := Lib.hid hbw; have HOW2 := Lib.hid hown2
          have z1 : w.heap.size < wr.heap.size := by omega
          clear hrow hycell hF hin2 hws hwo hbw hown2
          go_wp2_with fail
          refine (clone_ints ws yb yo _ yc _ (HIN.out.below (Below.new1 _ _) (Nat.le_refl _)) (by omega) (by omega)).mono ?_
          rintro r w1 ⟨cv, rfl, hown, hb1⟩
          obtain ⟨g, cp, rfl⟩ : ∃ g cap, cv = .slice (some ⟨g, 0, none⟩) ws.length cap := by
            obtain ⟨q, hq⟩ : ∃ q, ws.length = q + 1 := ⟨ws.length - 1, by omega⟩
            rw [hq] at hown ⊢; exact Slice.own_succ hown
          have hgb := (hown.lt g rfl).1
          have hsg : wr.heap.size + 1 ≤ g := by simpa using hgb
          have hF8 := heap_later (heap_new0 wr (.cells #[.int .i64 v, .int .i64 e, .bool inn, .int .i64 j, .slice (some ⟨yb, yo, none⟩) ws.length yc] 56)) hb1 (by simp)
          have hbw1 : Below wr.heap.size wr w1 := (Below.new1 _ _).trans (hb1.mono (by simp))
          have hs1 : wr.heap.size + 1 ≤ w1.heap.size := by have := hb1.size; simpa using this
          have HOW := Lib.hid hown; have HF8 := Lib.hid hF8; have HBW1 := Lib.hid hbw1
          clear hown hF8 hbw1 hb1 hgb d0 d1 d2 d3 d4
          go_wp2_with fail
          refine (delete_ints ws g _ cp m _ _ HOW.out (by omega)).mono ?_
          rintro r w2 ⟨rfl, hown, hb2⟩
          have hF8 := heap_later HF8.out hb2 (by omega)
          have hbw2 : Below wr.heap.size wr w2 := HBW1.out.trans (hb2.mono (by omega))
          have f4 : w2.cell? ⟨wr.heap.size, 4, none⟩ = some (.slice (some ⟨yb, yo, none⟩) ws.length yc) := by rw [cell_of_row _ _ _ _ _ _ hF8]; rfl
          have f4f : w2.frozen? ⟨wr.heap.size, 4, none⟩ = false := by simp [World.frozen?, hF8]
          have hs2 : wr.heap.size + 1 ≤ w2.heap.size := by have := hb2.size; omega
          clear HOW HF8 HBW1
          go_wp2
          refine abs_wp (fun W => W.heap[wr.heap.size]? = some (.cells #[.int .i64 v, .int .i64 e, .bool inn, .int .i64 j, .slice (some ⟨g, 0, none⟩) (ws.length - 1) cp] 56 (0, 0)) ∧ Below wr.heap.size wr W ∧ wr.heap.size + 1 ≤ W.heap.size ∧
            W.ownsRow (wr.heap.size + 1) 3 1 (.slice (some ⟨g, 0, none⟩) (ws.length - 1) cp) (ws.length - 1) (intsV (ws.eraseIdx m)))
            ⟨by simp only [World.setCell, Array.getElem?_modify, if_true, hF8, Option.map_some]; rfl, hbw2.setCell (Nat.le_refl _) _, by simpa using hs2, by
              have := ownsRow_setCell_other hown (a := ⟨wr.heap.size, 4, none⟩) (by simp [Value.ownBlock]; omega) (.slice (some ⟨g, 0, none⟩) (ws.length - 1) cp)
              simpa using this⟩ ?_
          clear hown hb2 hF8 hbw2 f4 f4f hs2
          rintro W5 ⟨hF8, hb5, hs5, hown⟩
          have hel : (ws.eraseIdx m).length = ws.length - 1 := by rw [List.length_eraseIdx, if_pos (by omega)]
          have hin5 : Ints W5 W5.heap.size (.slice (some ⟨g, 0, none⟩) (ws.length - 1) cp) (ws.eraseIdx m) := ownsRow_ints hown (by omega) hel
          have hbf := HBW.out.trans (hb5.mono HBW.out.size)
          have xx := propC_cells h8 (heap_later HX.out hbf hxl)
          have x0 := xx.1; have x1 := xx.2.1; have x18 := xx.2.2.2.1
          have y0 : x < W5.heap.size := by have := hbf.size; omega
          have y1 : wr.heap.size < W5.heap.size := by omega
          have g0 : W5.cell? ⟨wr.heap.size, 0, none⟩ = some (.int .i64 v) := by rw [cell_of_row _ _ _ _ _ _ hF8]; rfl
          have g1 : W5.cell? ⟨wr.heap.size, 1, none⟩ = some (.int .i64 e) := by rw [cell_of_row _ _ _ _ _ _ hF8]; rfl
          have g2 : W5.cell? ⟨wr.heap.size, 2, none⟩ = some (.bool inn) := by rw [cell_of_row _ _ _ _ _ _ hF8]; rfl
          have g3 : W5.cell? ⟨wr.heap.size, 3, none⟩ = some (.int .i64 j) := by rw [cell_of_row _ _ _ _ _ _ hF8]; rfl
          have g4 : W5.cell? ⟨wr.heap.size, 4, none⟩ = some (.slice (some ⟨g, 0, none⟩) (ws.length - 1) cp) := by rw [cell_of_row _ _ _ _ _ _ hF8]; rfl
          have HB5 := Lib.hid hb5; have HBF := Lib.hid hbf; have HI5 := Lib.hid hin5; have HOW := Lib.hid hown; have HF8 := Lib.hid hF8
          have hwo2 := HWO.out
          unfold whyRed at hwo2
          have h1 : ∀ d os, Gives Tryz.prog 103 #[.agg #[.slice ba p.bounds.length bc, .slice ra p.rules.length rc], .slice la l.length lc, .agg #[.int .i64 v, .int .i64 e, .bool inn, .int .i64 j, .slice (some ⟨g, 0, none⟩) (ws.length - 1) cp]] (Go.Sort.grow (redrawn W5 d) os) (.bool (explB p l ⟨v, e, inn, j, ws.eraseIdx m⟩)) := fun d os =>
            explained_any p l ⟨v, e, inn, j, ws.eraseIdx m⟩ _ _ _ _ _ (B := W5.heap.size) ((HBV.out.below (below_grow HBF.out d os) hB).mono (by have := HBF.out.size; omega)) ((HRV.out.below (below_grow HBF.out d os) hB).mono (by have := HBF.out.size; omega)) ((HLV.out.below (below_grow HBF.out d os) hB).mono (by have := HBF.out.size; omega))
              (HI5.out.below (below_regrown W5 d os) (Nat.le_refl _)) (below_regrown W5 d os).size HPO.out HL.out (HWS.out.erase m).get ⟨v, e, rfl, hv8, rfl, he⟩ j rfl hjl (HT.out.below (below_grow HBF.out d os) hw0) (by have := (below_grow HBF.out d os).size; omega)
          have H1 := Lib.hid h1
          clear h1 hb5 hbf hin5 hown hF8 xx
          cases hX : explB p l ⟨v, e, inn, j, ws.eraseIdx m⟩ <;> rw [hX] at H1 hwo2
          case false =>
            refine wp_region_qb (by kernel_rfl) (by kernel_rfl) ?_
            repeat go_big_quiet_step ((with_reducible exact Gives.quiet (H1.out _ _)))
            refine wpQuiet_nil ?_
            intro w6 hb6
            have hb := HB5.out.trans (hb6.mono HB5.out.size)
            have hF6 := heap_later HF.out hb z1
            have hi6 := HOW2.out.kept (row := none) ⟨hb.os, hb.tape, hb.output, hb.size, fun k hk _ => hb.block k hk⟩ (.inr (by simp [Value.ownBlock]))
            have hb7 := HBW.out.trans (hb.mono HBW.out.size)
            have hs6 : w.heap.size + 1 ≤ w6.heap.size := by have := hb.size; omega
            clear hb hb6
            go_wp2
            go_roundw
            case rel => exact ⟨m, ws, _, by go_num, by omega, hwl, by simpa using hwo2, HWS.out, hF6, hi6, hb7, hs6⟩
            case measure => simp [intOf]
          case true =>
            refine wp_region_qb (by kernel_rfl) (by kernel_rfl) ?_
            repeat go_big_quiet_step ((with_reducible exact Gives.quiet (H1.out _ _)))
            refine wpQuiet_nil ?_
            intro w6 hb6
            have hb := HB5.out.trans (hb6.mono HB5.out.size)
            have hF6 := heap_later HF.out hb z1
            have hF8 := heap_later HF8.out hb6 (by omega)
            have ho6 := HOW.out.kept (row := none) ⟨hb6.os, hb6.tape, hb6.output, hb6.size, fun k hk _ => hb6.block k hk⟩ (.inr (by simp [Value.ownBlock]))
            have hb7 := HBW.out.trans (hb.mono HBW.out.size)
            have hs6 : w.heap.size + 1 ≤ w6.heap.size := by have := hb.size; omega
            have g0 : w6.cell? ⟨wr.heap.size, 0, none⟩ = some (.int .i64 v) := by rw [cell_of_row _ _ _ _ _ _ hF8]; rfl
            have g1 : w6.cell? ⟨wr.heap.size, 1, none⟩ = some (.int .i64 e) := by rw [cell_of_row _ _ _ _ _ _ hF8]; rfl
            have g2 : w6.cell? ⟨wr.heap.size, 2, none⟩ = some (.bool inn) := by rw [cell_of_row _ _ _ _ _ _ hF8]; rfl
            have g3 : w6.cell? ⟨wr.heap.size, 3, none⟩ = some (.int .i64 j) := by rw [cell_of_row _ _ _ _ _ _ hF8]; rfl
            have g4 : w6.cell? ⟨wr.heap.size, 4, none⟩ = some (.slice (some ⟨g, 0, none⟩) (ws.length - 1) cp) := by rw [cell_of_row _ _ _ _ _ _ hF8]; rfl
            have d0 : w6.cell? ⟨w.heap.size, 0, none⟩ = some (.int .i64 v) := by rw [cell_of_row _ _ _ _ _ _ hF6]; rfl
            have d1 : w6.cell? ⟨w.heap.size, 1, none⟩ = some (.int .i64 e) := by rw [cell_of_row _ _ _ _ _ _ hF6]; rfl
            have d2 : w6.cell? ⟨w.heap.size, 2, none⟩ = some (.bool inn) := by rw [cell_of_row _ _ _ _ _ _ hF6]; rfl
            have d3 : w6.cell? ⟨w.heap.size, 3, none⟩ = some (.int .i64 j) := by rw [cell_of_row _ _ _ _ _ _ hF6]; rfl
            have d4 : w6.cell? ⟨w.heap.size, 4, none⟩ = some (.slice (some ⟨yb, yo, none⟩) ws.length yc) := by rw [cell_of_row _ _ _ _ _ _ hF6]; rfl
            have ff : ∀ i, w6.frozen? ⟨w.heap.size, i, none⟩ = false := fun i => by simp [World.frozen?, hF6]
            have ff0 := ff 0; have ff1 := ff 1; have ff2 := ff 2; have ff3 := ff 3; have ff4 := ff 4
            have HO6 := Lib.hid ho6; have HF6 := Lib.hid hF6; have HB7 := Lib.hid hb7
            clear hb hb6 hF8 ho6 hF6 hb7 ff
            go_wp2
            go_roundw
            case rel =>
              refine ⟨m, ws.eraseIdx m, .slice (some ⟨g, 0, none⟩) (ws.length - 1) cp, by go_num, by omega, by omega, by simpa using hwo2, HWS.out.erase m, ?_, ?_, ?_, ?_⟩
              · simp only [World.setCell, Array.getElem?_modify, if_true, HF6.out, Option.map_some]; rfl
              · have hne : (Value.slice (some ⟨g, 0, none⟩) (ws.length - 1) cp).ownBlock ≠ some w.heap.size := by simp [Value.ownBlock]; omega
                rw [hel]; exact own_mono (ownsRow_setCell_other (ownsRow_setCell_other (ownsRow_setCell_other (ownsRow_setCell_other (ownsRow_setCell_other HO6.out hne _) hne _) hne _) hne _) hne _) (by omega)
              · exact ((((HB7.out.setCell (Nat.le_refl _) _).setCell (Nat.le_refl _) _).setCell (Nat.le_refl _) _).setCell (Nat.le_refl _) _).setCell (Nat.le_refl _) _
              · simpa using hs6
            case measure => simp [intOf]
end Go.Proofs.YtilbbnjfaoldoaaGreatDoor

namespace Go.Proofs.YtilbbnjfaoldoaaGreatDoor
open Go Go.RowKit

abbrev St := List Bnd × List Fact
/-- What a rule says of an element: in, out, or nothing. -/
def tryE (r : Rl) (now : List Bnd) (v e : Nat) : Option Bool :=
  if !possB (withB now v e false) r then some true else if !possB (withB now v e true) r then some false else none
def stepE (p : Prob) (rs : Bool) (j v : Nat) (st : St) (e : Nat) : St :=
  match tryE (rget p.rules j) st.1 v e with
  | none => st
  | some inn => (withB st.1 v e inn, if rs then st.2 ++ [⟨v, e, inn, j, whyOf p st.2 ⟨v, e, inn, j, []⟩⟩] else st.2)
def stE (p : Prob) (rs : Bool) (j v : Nat) (st : St) (es : List Nat) : St := es.foldl (stepE p rs j v) st
def openE (b : Bnd) : Nat := sDiff b.can b.inn
def stepV (p : Prob) (rs : Bool) (j : Nat) (st : St) (v : Int) : St := stE p rs j v.toNat st (elems (openE (bget st.1 v.toNat)))
def stV (p : Prob) (rs : Bool) (j : Nat) (st : St) (vs : List Int) : St := vs.foldl (stepV p rs j) st
def ruleSt (p : Prob) (rs : Bool) (j : Nat) (st : St) : St := stV p rs j st (rget p.rules j).vars
/-- The rules one after another, from rule j on; the number of the one that holds for no sets. -/
def rulesSt (p : Prob) (rs : Bool) : Nat → Nat → St → St × Option Nat
  | 0, _, st => (st, none)
  | m + 1, j, st => if possB st.1 (rget p.rules j) then rulesSt p rs m (j + 1) (ruleSt p rs j st) else (st, some j)
def runSt (p : Prob) (rs : Bool) : Nat → St → St × Int
  | 0, st => (st, -1)
  | k + 1, st => match rulesSt p rs p.rules.length 0 st with
    | (st', some j) => (st', j)
    | (st', none) => if st'.1 = st.1 then (st', -1) else runSt p rs k st'

/-- How many elements are open. -/
def openB (b : Bnd) : Nat := (List.range 12).countP fun e => (openE b).testBit e
def openN (b : List Bnd) : Nat := (b.map openB).sum
theorem openE_testBit (b : Bnd) (e : Nat) : (openE b).testBit e = (b.can.testBit e && !b.inn.testBit e) := sDiff_testBit _ _ _
theorem bget_withB (b : List Bnd) (v e : Nat) (inn : Bool) (hv : v < b.length) (i : Nat) : bget (withB b v e inn) i = if i = v then (if inn then ⟨sOr (bget b v).inn (bitN e), (bget b v).can⟩ else ⟨(bget b v).inn, sDiff (bget b v).can (bitN e)⟩) else bget b i := by
  unfold withB
  cases inn
  · simp only [Bool.false_eq_true, if_false]; rw [bget_set _ _ _ _ hv]
  · simp only [if_true]; rw [bget_set _ _ _ _ hv]
theorem openE_withB (b : List Bnd) (v e : Nat) (inn : Bool) (hv : v < b.length) (i : Nat) : (openE (bget (withB b v e inn) v)).testBit i = ((openE (bget b v)).testBit i && !decide (i = e)) := by
  rw [bget_withB _ _ _ _ hv, if_pos rfl, openE_testBit, openE_testBit]
  cases inn
  · simp only [Bool.false_eq_true, if_false, sDiff_testBit, bitN_testBit]
    by_cases h : i = e
    · subst h; simp
    · simp [h, Ne.symm h]
  · simp only [if_true, sOr_testBit, bitN_testBit]
    by_cases h : i = e
    · subst h; simp
    · simp [h, Ne.symm h]
theorem countP_drop {n e : Nat} {p : Nat → Bool} (he : e < n) (hp : p e = true) : (List.range n).countP (fun i => p i && !decide (i = e)) + 1 = (List.range n).countP p := by
  induction n with
  | zero => omega
  | succ n ih =>
    rw [List.range_succ, List.countP_append, List.countP_append, List.countP_singleton, List.countP_singleton]
    by_cases h : e = n
    · subst h
      have : (List.range e).countP (fun i => p i && !decide (i = e)) = (List.range e).countP p := by
        apply List.countP_congr
        intro x hx
        have := List.mem_range.1 hx
        have hne : x ≠ e := by omega
        simp [hne]
      rw [this]; simp [hp]
    · have := ih (by omega)
      have hne : n ≠ e := fun h' => h h'.symm
      simp only [hne, decide_false, Bool.not_false, Bool.and_true]
      omega
theorem openB_le (b : Bnd) : openB b ≤ 12 := by unfold openB; have := List.countP_le_length (p := fun e => (openE b).testBit e) (l := List.range 12); simpa using this
theorem sum_set (l : List Nat) (v x : Nat) (h : v < l.length) : (l.set v x).sum + l[v] = l.sum + x := by
  induction l generalizing v with
  | nil => simp at h
  | cons a l ih =>
    cases v with
    | zero => simp; omega
    | succ v =>
      simp only [List.set_cons_succ, List.sum_cons, List.getElem_cons_succ]
      have := ih v (by simpa using h)
      omega
theorem withB_set (b : List Bnd) (v e : Nat) (inn : Bool) (hv : v < b.length) : withB b v e inn = b.set v (bget (withB b v e inn) v) := by
  rw [bget_withB _ _ _ _ hv, if_pos rfl]
  unfold withB
  cases inn <;> rfl
theorem openN_withB (b : List Bnd) (v e : Nat) (inn : Bool) (hv : v < b.length) (he : e < 12) (ho : (openE (bget b v)).testBit e = true) : openN (withB b v e inn) + 1 = openN b := by
  have h1 : openB (bget (withB b v e inn) v) + 1 = openB (bget b v) := by
    unfold openB
    rw [← countP_drop (p := fun e => (openE (bget b v)).testBit e) he ho]
    congr 1
    apply List.countP_congr
    intro x _
    rw [openE_withB _ _ _ _ hv]
  unfold openN
  rw [withB_set b v e inn hv, List.map_set]
  have h2 := sum_set (b.map openB) v (openB (bget (withB b v e inn) v)) (by simpa using hv)
  have h3 : (b.map openB)[v]'(by simpa using hv) = openB (bget b v) := by simp [bget, hv]
  rw [h3] at h2
  omega
theorem openN_le (b : List Bnd) : openN b ≤ b.length * 12 := by
  unfold openN
  induction b with
  | nil => simp
  | cons x b ih => simp only [List.map_cons, List.sum_cons, List.length_cons]; have := openB_le x; omega

/-- What stays true of a state. -/
structure Good (p : Prob) (st : St) : Prop where
  len : st.1.length = 8
  s12 : S12 st.1
  fit : ∀ i, i < st.2.length → FFit (fget st.2 i)
  few : st.2.length + openN st.1 ≤ 96
  short : ∀ i, i < st.2.length → (fget st.2 i).why.length ≤ 96
  sub : ∀ v i, (bget st.1 v).inn.testBit i = true → (bget st.1 v).can.testBit i = true
theorem sub_withB {b : List Bnd} {v e : Nat} (inn : Bool) (hv : v < b.length) (ho : (openE (bget b v)).testBit e = true) (hs : ∀ v i, (bget b v).inn.testBit i = true → (bget b v).can.testBit i = true) :
    ∀ v' i, (bget (withB b v e inn) v').inn.testBit i = true → (bget (withB b v e inn) v').can.testBit i = true := by
  intro v' i h
  rw [bget_withB _ _ _ _ hv] at h ⊢
  rw [openE_testBit, Bool.and_eq_true] at ho
  by_cases hvv : v' = v
  · rw [if_pos hvv] at h ⊢
    cases inn
    · simp only [Bool.false_eq_true, if_false] at h ⊢
      rw [sDiff_testBit, bitN_testBit, hs _ _ h]
      by_cases he : e = i
      · subst he; rw [h] at ho; simp at ho
      · simp [he]
    · simp only [if_true] at h ⊢
      rw [sOr_testBit, bitN_testBit, Bool.or_eq_true] at h
      rcases h with h | h
      · exact hs _ _ h
      · have : e = i := by simpa using h
        subst this; exact ho.1
  · rw [if_neg hvv] at h ⊢
    exact hs _ _ h
theorem whyRed_length (p : Prob) (l : List Fact) (f : Fact) : ∀ (i : Nat) (ws : List Int), (whyRed p l f i ws).length ≤ ws.length
  | 0, ws => Nat.le_refl _
  | i + 1, ws => by
    unfold whyRed
    refine Nat.le_trans (whyRed_length p l f i _) ?_
    split
    · exact List.length_eraseIdx_le ws i
    · exact Nat.le_refl _
theorem whyOf_length (p : Prob) (l : List Fact) (f : Fact) : (whyOf p l f).length ≤ l.length := Nat.le_trans (whyRed_length _ _ _ _ _) (why0_length _ _ _ _)
theorem fget_snoc (l : List Fact) (f : Fact) (i : Nat) : fget (l ++ [f]) i = if i < l.length then fget l i else if i = l.length then f else default := by
  unfold fget
  by_cases h : i < l.length
  · rw [if_pos h, List.getElem?_append_left h]
  · rw [if_neg h]
    by_cases h2 : i = l.length
    · rw [if_pos h2, h2]; simp
    · rw [if_neg h2, List.getElem?_eq_none (by simp; omega)]; rfl
theorem Good.step {p : Prob} {rs : Bool} {j v e : Nat} {st : St} (h : Good p st) (hv : v < 8) (he : e < 12) (ho : (openE (bget st.1 v)).testBit e = true) :
    Good p (stepE p rs j v st e) ∧ openN (stepE p rs j v st e).1 ≤ openN st.1 ∧ ((stepE p rs j v st e).1 = st.1 ∨ openN (stepE p rs j v st e).1 < openN st.1) ∧
      ∀ i, i ≠ e → (openE (bget (stepE p rs j v st e).1 v)).testBit i = (openE (bget st.1 v)).testBit i := by
  unfold stepE
  cases ht : tryE (rget p.rules j) st.1 v e with
  | none => exact ⟨h, Nat.le_refl _, .inl rfl, fun i _ => rfl⟩
  | some inn =>
    have hv' : v < st.1.length := by rw [h.len]; exact hv
    have hn := openN_withB st.1 v e inn hv' he ho
    refine ⟨⟨by rw [withB_length]; exact h.len, h.s12.with he inn, fun i hi => ?_, ?_, fun i hi => ?_, sub_withB inn hv' ho h.sub⟩, by show openN (withB st.1 v e inn) ≤ _; omega, .inr (by show openN (withB st.1 v e inn) < _; omega), fun i hi => ?_⟩
    · cases rs
      · exact h.fit i hi
      · simp only [if_true] at hi ⊢
        rw [fget_snoc]
        split
        · exact h.fit i (by assumption)
        · rw [if_pos (by simp at hi; omega)]
          exact ⟨v, e, rfl, hv, rfl, he⟩
    · have := h.few
      cases rs
      · simp only [Bool.false_eq_true, if_false]; omega
      · simp only [if_true, List.length_append, List.length_cons, List.length_nil]; omega
    · have := h.few
      cases rs
      · exact h.short i hi
      · simp only [if_true] at hi ⊢
        rw [fget_snoc]
        split
        · exact h.short i (by assumption)
        · rw [if_pos (by simp at hi; omega)]
          exact Nat.le_trans (whyOf_length _ _ _) (by omega)
    · show (openE (bget (withB st.1 v e inn) v)).testBit i = _
      rw [openE_withB _ _ _ _ hv']
      simp [hi]
theorem elems_mem {s e : Nat} : e ∈ elems s ↔ e < 64 ∧ s.testBit e = true := by unfold elems; simp
theorem elems_nodup (s : Nat) : (elems s).Nodup := by unfold elems; exact List.Pairwise.filter _ List.nodup_range
/-- Along a list of open elements, each once. -/
theorem Good.steps {p : Prob} {rs : Bool} {j v : Nat} (hv : v < 8) : ∀ (es : List Nat) {st : St}, Good p st → es.Nodup → (∀ e ∈ es, e < 12 ∧ (openE (bget st.1 v)).testBit e = true) →
    Good p (stE p rs j v st es) ∧ openN (stE p rs j v st es).1 ≤ openN st.1 ∧ ((stE p rs j v st es).1 = st.1 ∨ openN (stE p rs j v st es).1 < openN st.1)
  | [], st, h, _, _ => ⟨h, Nat.le_refl _, .inl rfl⟩
  | e :: es, st, h, hnd, ho => by
    have h1 := h.step (rs := rs) (j := j) hv (ho e (by simp)).1 (ho e (by simp)).2
    have hne := List.nodup_cons.1 hnd
    have h2 := Good.steps (rs := rs) (j := j) hv es h1.1 hne.2 (fun e' he' => ⟨(ho e' (by simp [he'])).1, by
      rw [h1.2.2.2 e' (fun hh => hne.1 (hh ▸ he'))]; exact (ho e' (by simp [he'])).2⟩)
    refine ⟨h2.1, Nat.le_trans h2.2.1 h1.2.1, ?_⟩
    rcases h2.2.2 with h3 | h3
    · rcases h1.2.2.1 with h4 | h4
      · exact .inl (h3.trans h4)
      · right
        show openN (stE p rs j v (stepE p rs j v st e) es).1 < _
        rw [h3]; exact h4
    · exact .inr (Nat.lt_of_lt_of_le h3 h1.2.1)
/-- What is open in sets of elements alone. -/
theorem open_elems {b : Bnd} (hb : b.can < 4096) {e : Nat} (he : e ∈ elems (openE b)) : e < 12 ∧ (openE b).testBit e = true := by
  have h := elems_mem.1 he
  refine ⟨?_, h.2⟩
  have h2 := h.2
  rw [openE_testBit, Bool.and_eq_true] at h2
  rcases Nat.lt_or_ge e 12 with h3 | h3
  · exact h3
  · have : b.can < 2 ^ e := Nat.lt_of_lt_of_le hb (show 2 ^ 12 ≤ 2 ^ e from Nat.pow_le_pow_right (Nat.succ_pos 1) h3)
    rw [Nat.testBit_lt_two_pow this] at h2
    exact absurd h2.1 (by decide)
theorem Good.var {p : Prob} {rs : Bool} {j : Nat} {st : St} (h : Good p st) {v : Int} (hv : 0 ≤ v ∧ v < 8) :
    Good p (stepV p rs j st v) ∧ openN (stepV p rs j st v).1 ≤ openN st.1 ∧ ((stepV p rs j st v).1 = st.1 ∨ openN (stepV p rs j st v).1 < openN st.1) :=
  Good.steps (by omega) _ h (elems_nodup _) fun e he => open_elems (h.s12.get _).2 he
theorem Good.vars {p : Prob} {rs : Bool} {j : Nat} : ∀ (vs : List Int) {st : St}, Good p st → (∀ v ∈ vs, 0 ≤ v ∧ v < 8) →
    Good p (stV p rs j st vs) ∧ openN (stV p rs j st vs).1 ≤ openN st.1 ∧ ((stV p rs j st vs).1 = st.1 ∨ openN (stV p rs j st vs).1 < openN st.1)
  | [], st, h, _ => ⟨h, Nat.le_refl _, .inl rfl⟩
  | v :: vs, st, h, hv => by
    have h1 := h.var (rs := rs) (j := j) (hv v (by simp))
    have h2 := Good.vars (rs := rs) (j := j) vs h1.1 (fun v' h' => hv v' (by simp [h']))
    refine ⟨h2.1, Nat.le_trans h2.2.1 h1.2.1, ?_⟩
    rcases h2.2.2 with h3 | h3
    · rcases h1.2.2 with h4 | h4
      · exact .inl (h3.trans h4)
      · right
        show openN (stV p rs j (stepV p rs j st v) vs).1 < _
        rw [h3]; exact h4
    · exact .inr (Nat.lt_of_lt_of_le h3 h1.2.1)
theorem RFit.mem {r : Rl} (h : RFit r) : ∀ v ∈ r.vars, 0 ≤ v ∧ v < 8 := by
  intro v hv
  obtain ⟨i, hi, rfl⟩ := List.mem_iff_getElem.1 hv
  have := h.2 i hi
  rwa [show iget r.vars i = r.vars[i] by simp [iget, hi]] at this
theorem Good.rule {p : Prob} {rs : Bool} {j : Nat} {st : St} (h : Good p st) (hf : RFit (rget p.rules j)) :
    Good p (ruleSt p rs j st) ∧ openN (ruleSt p rs j st).1 ≤ openN st.1 ∧ ((ruleSt p rs j st).1 = st.1 ∨ openN (ruleSt p rs j st).1 < openN st.1) := Good.vars _ h hf.mem
end Go.Proofs.YtilbbnjfaoldoaaGreatDoor

namespace Go.Proofs.YtilbbnjfaoldoaaGreatDoor
open Go Go.RowKit

theorem Good.rules {p : Prob} {rs : Bool} (hp : ∀ i, i < p.rules.length → RFit (rget p.rules i)) : ∀ (m j : Nat) {st : St}, Good p st → j + m ≤ p.rules.length →
    Good p (rulesSt p rs m j st).1 ∧ openN (rulesSt p rs m j st).1.1 ≤ openN st.1 ∧ ((rulesSt p rs m j st).1.1 = st.1 ∨ openN (rulesSt p rs m j st).1.1 < openN st.1)
  | 0, _, st, h, _ => ⟨h, Nat.le_refl _, .inl rfl⟩
  | m + 1, j, st, h, hj => by
    unfold rulesSt
    split
    · have h1 := h.rule (rs := rs) (j := j) (hp j (by omega))
      have h2 := Good.rules (rs := rs) hp m (j + 1) h1.1 (by omega)
      refine ⟨h2.1, Nat.le_trans h2.2.1 h1.2.1, ?_⟩
      rcases h2.2.2 with h3 | h3
      · rcases h1.2.2 with h4 | h4
        · exact .inl (h3.trans h4)
        · right; rw [h3]; exact h4
      · exact .inr (Nat.lt_of_lt_of_le h3 h1.2.1)
    · exact ⟨h, Nat.le_refl _, .inl rfl⟩
/-- All rounds. -/
def runR (p : Prob) (rs : Bool) (st : St) : St × Int := runSt p rs (openN st.1 + 1) st
def Sub (b : List Bnd) : Prop := ∀ v i, (bget b v).inn.testBit i = true → (bget b v).can.testBit i = true
theorem Good.start {p : Prob} {b : List Bnd} (h8 : b.length = 8) (hs : S12 b) (hsub : Sub b) : Good p (b, []) :=
  ⟨h8, hs, fun i hi => absurd hi (Nat.not_lt_zero _), by have := openN_le b; simp only [List.length_nil]; omega, fun i hi => absurd hi (Nat.not_lt_zero _), hsub⟩
theorem sub_of_diff {a b : Nat} (h : (sDiff a b == 0) = true) (i : Nat) (hi : a.testBit i = true) : b.testBit i = true := by
  have h0 : sDiff a b = 0 := by simpa using h
  have := sDiff_testBit a b i
  rw [h0, Nat.zero_testBit, hi] at this
  cases hb : b.testBit i
  · rw [hb] at this; cases this
  · rfl
theorem probOk_sub {p : Prob} (h : probOk p = true) : Sub (padB p.bounds) := by
  intro v i hi
  rw [bget_pad] at hi ⊢
  simp only [probOk, Bool.and_eq_true] at h
  have hb := h.1.2
  by_cases hv : v < p.bounds.length
  · have := List.all_eq_true.1 hb (bget p.bounds v) (by unfold bget; rw [List.getElem?_eq_getElem hv]; exact List.getElem_mem hv)
    unfold bndOk at this
    rw [Bool.and_eq_true] at this
    exact sub_of_diff this.2 i hi
  · have e : bget p.bounds v = default := by unfold bget; rw [List.getElem?_eq_none (by omega)]; rfl
    rw [e] at hi
    exact absurd hi (by show ¬ (0 : Nat).testBit i = true; rw [Nat.zero_testBit]; decide)
/-- A problem as defined, at its start. -/
theorem Good.first {p : Prob} (h : probOk p = true) : Good p (padB p.bounds, []) := Good.start (padB_length (probOk_fit h).2.1) (S12.pad (probOk_fit h).2.2.2.2) (probOk_sub h)
theorem Good.run {p : Prob} {rs : Bool} (hp : ∀ i, i < p.rules.length → RFit (rget p.rules i)) : ∀ (k : Nat) {st : St}, Good p st → Good p (runSt p rs k st).1 ∧ openN (runSt p rs k st).1.1 ≤ openN st.1
  | 0, st, h => ⟨h, Nat.le_refl _⟩
  | k + 1, st, h => by
    have h1 := Good.rules (rs := rs) hp p.rules.length 0 h (by omega)
    unfold runSt
    generalize rulesSt p rs p.rules.length 0 st = q at h1
    obtain ⟨st', r⟩ := q
    cases r with
    | some j => exact ⟨h1.1, h1.2.1⟩
    | none =>
      dsimp only
      split
      · exact ⟨h1.1, h1.2.1⟩
      · have h2 := Good.run (rs := rs) hp k h1.1
        exact ⟨h2.1, Nat.le_trans h2.2 h1.2.1⟩
end Go.Proofs.YtilbbnjfaoldoaaGreatDoor

namespace Go.Proofs.YtilbbnjfaoldoaaGreatDoor
open Go Go.RowKit

theorem eq_bnd (x y : Bnd) (w : World) : (Op.equalIn 9999 47 (.agg #[.int .u64 (x.inn : Nat), .int .u64 (x.can : Nat)]) (.agg #[.int .u64 (y.inn : Nat), .int .u64 (y.can : Nat)])).run Tryz.prog w = .ok (decide (x = y)) w := by
  have u3 := Tryz.underlying38
  have a3 := Tryz.isAgg38
  have z3 := Tryz.sizeOf38
  have hS : Tryz.prog.underlying 47 = some (.struct (Tryz.prog.fieldsOf 47)) := by kernel_rfl
  have hp : Tryz.prog.stoodInHeld 47 = false := by kernel_rfl
  rw [show (9999 : Nat) = 9998 + 1 from rfl, run_equalIn_agg w 9998 47 _ _ hS hp]
  simp only [Program.fieldsOf, Tryz.underlying47]
  go_simp
  obtain ⟨a, b⟩ := x
  obtain ⟨c, d⟩ := y
  by_cases h1 : a = c <;> by_cases h2 : b = d <;> simp [h1, h2] <;> omega
theorem extract_bnd (b : List Bnd) (i : Nat) (hi : i < b.length) : (bCells b).toArray.extract (i * 2) (i * 2 + 2) = #[.int .u64 ((bget b i).inn : Nat), .int .u64 ((bget b i).can : Nat)] := by
  have hl := bCells_length b
  have h0 : (bCells b)[i * 2]? = some (.int .u64 ((bget b i).inn : Nat)) := by rw [bCells_get _ _ (by omega), bcellAt_inn]
  have h1 : (bCells b)[i * 2 + 1]? = some (.int .u64 ((bget b i).can : Nat)) := by rw [bCells_get _ _ (by omega), bcellAt_can]
  apply Array.ext_getElem?
  intro k
  rw [Array.getElem?_extract]
  rcases k with _ | _ | k
  · rw [if_pos (by simp; omega), List.getElem?_toArray, Nat.add_zero, h0]; rfl
  · rw [if_pos (by simp; omega), List.getElem?_toArray, h1]; rfl
  · rw [if_neg (by simp; omega)]; simp
theorem part_bnd (b : List Bnd) (i : Nat) (hi : i < b.length) (w : World) : (part 47 (bCells b).toArray (i * 2)).run Tryz.prog w = .ok (.agg #[.int .u64 ((bget b i).inn : Nat), .int .u64 ((bget b i).can : Nat)]) w := by
  simp only [part, Sem.run_bind, Tryz.isAgg47, Result.andThen_ok, if_true, Tryz.sizeOf47, Sem.run_pure, extract_bnd b i hi]
theorem bnds_eq (a b : List Bnd) (hl : a.length = b.length) : decide (a = b) = (List.range a.length).all fun i => decide (bget a i = bget b i) := by
  rw [Bool.eq_iff_iff]
  simp only [decide_eq_true_eq, List.all_eq_true, List.mem_range]
  constructor
  · rintro rfl i _; rfl
  · intro h
    apply List.ext_getElem hl
    intro i h1 h2
    have := h i h1
    simpa [bget, h1, h2] using this
theorem equal_bounds (a b : List Bnd) (ha : a.length = 8) (hb : b.length = 8) (w : World) : (Op.equalIn 10000 85 (.agg (bCells a).toArray) (.agg (bCells b).toArray)).run Tryz.prog w = .ok (decide (a = b)) w := by
  rw [show (10000 : Nat) = 9999 + 1 from rfl, Op.equalIn]
  simp only [Sem.run_bind, run_underlying Tryz.underlying85, Result.andThen_ok, Tryz.sizeOf47]
  simp only [Std.Legacy.Range.forIn_eq_forIn_range', Std.Legacy.Range.size, Nat.sub_zero, Nat.add_sub_cancel, Nat.div_one]
  rw [bnds_eq a b (ha.trans hb.symm), ha, List.range_eq_range']
  have key : ∀ (is : List Nat) (w : World), (∀ i ∈ is, i < 8) → Sem.run Tryz.prog (forIn is ((none, ()) : Option Bool × Unit) fun i __s => do
      let x ← part 47 (bCells a).toArray (i * 2)
      let y ← part 47 (bCells b).toArray (i * 2)
      let r ← Op.equalIn 9999 47 x y
      if (!r) = true then pure (ForInStep.done (some false, ())) else pure (ForInStep.yield (none, ()))) w = .ok (if (is.all fun i => decide (bget a i = bget b i)) = true then (none, ()) else (some false, ())) w := by
    intro is
    induction is with
    | nil => intro w _; simp
    | cons i is ih =>
      intro w h
      have hi := h i (by simp)
      simp only [List.forIn_cons, Sem.run_bind, part_bnd a i (by omega), part_bnd b i (by omega), Result.andThen_ok, eq_bnd, List.all_cons]
      by_cases hd : bget a i = bget b i
      case neg => simp [hd]
      case pos =>
        simp only [hd, decide_true, Bool.not_true, Bool.false_eq_true, if_false, Sem.run_pure, Result.andThen_ok, Bool.true_and]
        exact ih w (fun i h' => h i (by simp [h']))
  have := key (List.range' 0 8) w (fun i hi => by simp at hi; omega)
  rw [this]
  cases (List.range' 0 8).all fun i => decide (bget a i = bget b i) <;> simp
theorem run_eql_bounds (a b : List Bnd) (ha : a.length = 8) (hb : b.length = 8) (w : World) : (binOp .eql 85 (.agg (bCells a).toArray) (.agg (bCells b).toArray)).run Tryz.prog w = .ok (.bool (decide (a = b))) w := by
  rw [run_eql_struct, equal_bounds a b ha hb]; rfl
end Go.Proofs.YtilbbnjfaoldoaaGreatDoor
