/- The law SetsKnown, walked. -/
import Derived.Test.YtilbbnjfaoldoaaDoorEqB
import Derived.Test.YtilbbnjfaoldoaaDoorSameD
namespace Go.Proofs.YtilbbnjfaoldoaaDoor
open Go Go.RowKit
attribute [local go_sem] cell_grow u64_sAnd u64_sOr u64_sDiff sDiff_all zeqI zneI sAnd_bit_zero sAnd_bit_zeroN sAnd_bit_nonzero rowOf_grow rowOk_grow rowOf_alloc rowOk_alloc

theorem abs_calls {P : Program} {f : Nat} {args : Array Value} {Q : Ending → World → Prop} {W : World} (R : World → Prop) (hR : R W) (h : ∀ W', R W' → Calls P f args W' Q) : Calls P f args W Q := h W hR
def bndsA : List Bnd := [⟨0, 7⟩, ⟨0, 7⟩, ⟨7, 7⟩]
def factsB : List Fact := [⟨2, 0, true, 0, []⟩, ⟨0, 0, false, 1, []⟩, ⟨2, 1, true, 2, []⟩, ⟨2, 2, true, 2, []⟩, ⟨0, 1, true, 3, [1]⟩, ⟨0, 2, true, 3, [1]⟩, ⟨1, 2, false, 1, [5]⟩]
theorem valHoldsA2 : holdsR pA [3, 4, 7] = 4 ∧ holdsOk pA [3, 4, 7] = true := by decide +kernel
theorem valPropA : (propR pA).2 = -1 ∧ (propR pA).1.1.take 3 = bndsA ∧ (propR pA).1.2.length = 3 := by decide +kernel
theorem valPropC : (propR pC).2 = 3 := by decide +kernel
theorem valPropB2 : (propR pB).1.2 = factsB := by decide +kernel
theorem valCoreA : coreR pA = ([], 5) := by decide +kernel
theorem u64_347 : ∀ s ∈ [3, 4, 7], U64 s := fun s hs => by
  simp only [List.mem_cons, List.not_mem_nil, or_false] at hs
  rcases hs with rfl | rfl | rfl <;> (unfold U64; omega)
/-- Facts as a block's cells. -/
theorem facts_block {w : World} {b : Nat} {fs : List Fact} {cs : Array Value} (h : w.heap[b]? = some (.cells cs 56 (0, 0))) (hl : fs.length ≤ 1000) (hc : cs.size = fs.length * 5)
    (hf : ∀ i, i < fs.length → cs[i * 5]? = some (.int .i64 (fget fs i).var) ∧ cs[i * 5 + 1]? = some (.int .i64 (fget fs i).elem) ∧ cs[i * 5 + 2]? = some (.bool (fget fs i).inn) ∧ cs[i * 5 + 3]? = some (.int .i64 (fget fs i).rule) ∧ ∃ yv, cs[i * 5 + 4]? = some yv ∧ Ints w w.heap.size yv (fget fs i).why) :
    Fcts w w.heap.size (.slice (some ⟨b, 0, none⟩) fs.length fs.length) fs := by
  refine ⟨fun i => cs[i]?.getD undef, ⟨by omega, _, _, rfl, Nat.le_refl _, by unfold maxLen; omega, fun _ => ⟨b, 0, rfl, (Array.getElem?_eq_some_iff.1 h).1, fun i hi => ?_⟩⟩, fun i hi => ?_⟩
  · rw [Nat.zero_add, cell_of_row _ _ _ _ _ _ h]
    have : i < cs.size := by omega
    simp only [Array.getElem?_eq_getElem this, Option.getD_some]
  · obtain ⟨e1, e2, e3, e4, yv, e5, e6⟩ := hf i hi
    simp only [e1, e2, e3, e4, e5, Option.getD_some]
    exact ⟨trivial, trivial, trivial, trivial, e6⟩
/-- The facts that the law writes down, their numbers in the three blocks from b on. -/
def knownC (b : Nat) : Array Value := #[.int .i64 2, .int .i64 0, .bool true, .int .i64 0, .slice none 0 0, .int .i64 0, .int .i64 0, .bool false, .int .i64 1, .slice none 0 0, .int .i64 2, .int .i64 1, .bool true, .int .i64 2, .slice none 0 0, .int .i64 2, .int .i64 2, .bool true, .int .i64 2, .slice none 0 0, .int .i64 0, .int .i64 1, .bool true, .int .i64 3, .slice (some ⟨b, 0, none⟩) 1 1, .int .i64 0, .int .i64 2, .bool true, .int .i64 3, .slice (some ⟨b + 1, 0, none⟩) 1 1, .int .i64 1, .int .i64 2, .bool false, .int .i64 1, .slice (some ⟨b + 1 + 1, 0, none⟩) 1 1]
theorem known_fcts (w : World) : Fcts ((((w.alloc (.cells #[.int .i64 1] 3)).alloc (.cells #[.int .i64 1] 3)).alloc (.cells #[.int .i64 5] 3)).alloc (.cells (knownC w.heap.size) 56)) ((((w.alloc (.cells #[.int .i64 1] 3)).alloc (.cells #[.int .i64 1] 3)).alloc (.cells #[.int .i64 5] 3)).alloc (.cells (knownC w.heap.size) 56)).heap.size (.slice (some ⟨w.heap.size + 1 + 1 + 1, 0, none⟩) 7 7) factsB := by
  have h4 := heap_new4 w (.cells #[.int .i64 1] 3) (.cells #[.int .i64 1] 3) (.cells #[.int .i64 5] 3) (.cells (knownC w.heap.size) 56)
  generalize ((((w.alloc (.cells #[.int .i64 1] 3)).alloc (.cells #[.int .i64 1] 3)).alloc (.cells #[.int .i64 5] 3)).alloc (.cells (knownC w.heap.size) 56)) = W at h4 ⊢
  have i1 : Ints W W.heap.size (.slice (some ⟨w.heap.size, 0, none⟩) 1 1) [1] := ints_block (xs := [1]) h4.1 (by decide)
  have i2 : Ints W W.heap.size (.slice (some ⟨w.heap.size + 1, 0, none⟩) 1 1) [1] := ints_block (xs := [1]) h4.2.1 (by decide)
  have i3 : Ints W W.heap.size (.slice (some ⟨w.heap.size + 2, 0, none⟩) 1 1) [5] := ints_block (xs := [5]) h4.2.2.1 (by decide)
  have i0 := Ints.nil W W.heap.size
  refine facts_block (fs := factsB) (cs := knownC w.heap.size) h4.2.2.2 (by decide) rfl fun i hi => ?_
  have hi7 : i < 7 := hi
  have : i = 0 ∨ i = 1 ∨ i = 2 ∨ i = 3 ∨ i = 4 ∨ i = 5 ∨ i = 6 := by omega
  rcases this with rfl | rfl | rfl | rfl | rfl | rfl | rfl
  · exact ⟨rfl, rfl, rfl, rfl, _, rfl, i0⟩
  · exact ⟨rfl, rfl, rfl, rfl, _, rfl, i0⟩
  · exact ⟨rfl, rfl, rfl, rfl, _, rfl, i0⟩
  · exact ⟨rfl, rfl, rfl, rfl, _, rfl, i0⟩
  · exact ⟨rfl, rfl, rfl, rfl, _, rfl, i1⟩
  · exact ⟨rfl, rfl, rfl, rfl, _, rfl, i2⟩
  · exact ⟨rfl, rfl, rfl, rfl, _, rfl, i3⟩
/-- Four lists of three sets each, in blocks. -/
theorem uss_four {w : World} {b g : Nat} {x y z u : List Nat} {t : TypeId} (h : w.heap[b]? = some (.cells #[.slice (some ⟨g, 0, none⟩) x.length x.length, .slice (some ⟨g + 1, 0, none⟩) y.length y.length, .slice (some ⟨g + 1 + 1, 0, none⟩) z.length z.length, .slice (some ⟨g + 1 + 1 + 1, 0, none⟩) u.length u.length] t (0, 0)))
    (h1 : w.heap[g]? = some (.cells (natsV x).toArray 65 (0, 0))) (h2 : w.heap[g + 1]? = some (.cells (natsV y).toArray 65 (0, 0))) (h3 : w.heap[g + 2]? = some (.cells (natsV z).toArray 65 (0, 0))) (h4 : w.heap[g + 3]? = some (.cells (natsV u).toArray 65 (0, 0))) (hl : x.length ≤ 1000 ∧ y.length ≤ 1000 ∧ z.length ≤ 1000 ∧ u.length ≤ 1000) :
    Uss w w.heap.size (.slice (some ⟨b, 0, none⟩) 4 4) [x, y, z, u] := by
  refine ⟨fun i => #[Value.slice (some ⟨g, 0, none⟩) x.length x.length, .slice (some ⟨g + 1, 0, none⟩) y.length y.length, .slice (some ⟨g + 1 + 1, 0, none⟩) z.length z.length, .slice (some ⟨g + 1 + 1 + 1, 0, none⟩) u.length u.length][i]?.getD undef, ⟨by show 4 ≤ _; decide, _, _, rfl, Nat.le_refl _, by decide, fun _ => ⟨b, 0, rfl, (Array.getElem?_eq_some_iff.1 h).1, fun i hi => ?_⟩⟩, fun i hi => ?_⟩
  · have h4' : i < 4 := hi
    rw [Nat.zero_add, cell_of_row _ _ _ _ _ _ h]
    have : i = 0 ∨ i = 1 ∨ i = 2 ∨ i = 3 := by omega
    rcases this with rfl | rfl | rfl | rfl <;> rfl
  · have h4' : i < 4 := hi
    have : i = 0 ∨ i = 1 ∨ i = 2 ∨ i = 3 := by omega
    rcases this with rfl | rfl | rfl | rfl
    · exact us_block h1 hl.1
    · exact us_block h2 hl.2.1
    · exact us_block h3 hl.2.2.1
    · exact us_block h4 hl.2.2.2
theorem popc7 : popc 7 = 3 := by decide +kernel
set_option maxRecDepth 100000 in
set_option maxHeartbeats 4000000 in
theorem setsKnown_any (w : World) (hT : Tab w) (hw0 : 0 < w.heap.size) : Gives Tryd.prog 7 #[] w (.bool true) := by
  unfold Gives
  have HT := Lib.hid hT
  clear hT
  go_enter Tryd.func7, Tryd.ntmps7
  go_wp2_with fail
  refine (mkA _).mono ?_
  rintro e w1 ⟨bv, rv, rfl, hm, hb1⟩
  have hn := Below.new1 w1 (.cells (natsV [3, 4, 7]).toArray 65)
  have hm2 := hm.ck (CK.below hn)
  have hb2 := hb1.trans (hn.mono hb1.size)
  have h1 := hm2.bnds' (by decide)
  have h2 := hm2.rls' (by decide) shortA
  have h3 := us_block (heap_new0 w1 (.cells (natsV [3, 4, 7]).toArray 65)) (by decide)
  have H1 := Lib.hid h1; have H2 := Lib.hid h2; have H3 := Lib.hid h3; have HB2 := Lib.hid hb2
  obtain ⟨ra, rn, rc, rfl⟩ := hm.slice
  obtain ⟨ba, bn, bc, rfl⟩ : ∃ a n c, bv = .slice a n c := by
    obtain ⟨g, _, h, _⟩ := hm.bnds
    exact ⟨_, _, _, h⟩
  clear hn hm2 hm hb1 h1 h2 h3 hb2
  go_wp2_with fail
  refine (holds_any pA [3, 4, 7] _ _ _ _ H1.out H2.out H3.out (Nat.le_refl _) (u64_of12 okA) u64_347 (HT.out.below HB2.out hw0) (by have := HB2.out.size; omega)).mono ?_
  rintro e w2 ⟨rfl, hb3⟩
  rw [valHoldsA2.1, valHoldsA2.2, show errOf true = 0 from rfl]
  have HB3 := Lib.hid (HB2.out.trans (hb3.mono HB2.out.size))
  clear hb3 H1 H2 H3 HB2
  go_wp2_with fail
  refine (mkA _).mono ?_
  rintro e w3 ⟨bv, rv, rfl, hm, hb1⟩
  have HK1 := Lib.hid hb1
  have H1 := Lib.hid (hm.bnds' (by decide)); have H2 := Lib.hid (hm.rls' (by decide) shortA)
  obtain ⟨ra, rn, rc, rfl⟩ := hm.slice
  obtain ⟨ba, bn, bc, rfl⟩ : ∃ a n c, bv = .slice a n c := by
    obtain ⟨g, _, h, _⟩ := hm.bnds
    exact ⟨_, _, _, h⟩
  clear hm hb1
  have HB4 := Lib.hid (HB3.out.trans (HK1.out.mono HB3.out.size))
  go_wp2_with fail
  refine (propagate_yes pA _ _ _ H1.out H2.out (by have := HB4.out.size; omega) (Nat.le_refl _) (u64_of12 okA) (HT.out.below HB4.out hw0) okA).mono ?_
  rintro e w4 ⟨pb, pl, rfl, hpb, hpl, hb4⟩
  rw [valPropA.1]
  have hpb : Bnds w4 w4.heap.size pb bndsA := by rw [← valPropA.2.1]; exact hpb
  obtain ⟨ga, gc, rfl⟩ : ∃ a c, pb = .slice a 3 c := hpb.slice
  obtain ⟨la, lc, rfl⟩ : ∃ a c, pl = .slice a 3 c := by have := hpl.slice; rwa [valPropA.2.2] at this
  have HB5 := Lib.hid (HB4.out.trans (hb4.mono HB4.out.size)); have HPB := Lib.hid hpb
  clear hb4 hpb hpl H1 H2 HB4 HB3 HK1
  go_wp2_with fail
  refine (mkC _).mono ?_
  rintro e w5 ⟨bv, rv, rfl, hm, hb1⟩
  have HK1 := Lib.hid hb1
  have H1 := Lib.hid (hm.bnds' (by decide)); have H2 := Lib.hid (hm.rls' (by decide) shortC)
  obtain ⟨ra, rn, rc, rfl⟩ := hm.slice
  obtain ⟨ba, bn, bc, rfl⟩ : ∃ a n c, bv = .slice a n c := by
    obtain ⟨g, _, h, _⟩ := hm.bnds
    exact ⟨_, _, _, h⟩
  clear hm hb1
  have HB6 := Lib.hid (HB5.out.trans (HK1.out.mono HB5.out.size))
  go_wp2_with fail
  refine (propagate_yes pC _ _ _ H1.out H2.out (by have := HB6.out.size; omega) (Nat.le_refl _) (u64_of12 okC) (HT.out.below HB6.out hw0) okC).mono ?_
  rintro e w6 ⟨pb2, pl2, rfl, hpb2, hpl2, hb6⟩
  rw [valPropC]
  obtain ⟨g2a, g2n, g2c, rfl⟩ : ∃ a n c, pb2 = .slice a n c := by obtain ⟨a, c, h⟩ := hpb2.slice; exact ⟨_, _, _, h⟩
  obtain ⟨l2a, l2n, l2c, rfl⟩ : ∃ a n c, pl2 = .slice a n c := by obtain ⟨a, c, h⟩ := hpl2.slice; exact ⟨_, _, _, h⟩
  have hx46 := HK1.out.trans (hb6.mono HK1.out.size)
  have HB7 := Lib.hid (HB6.out.trans (hb6.mono HB6.out.size)); have HPB6 := Lib.hid ((HPB.out.below hx46 (Nat.le_refl _)).mono hx46.size)
  clear hb6 hpb2 hpl2 H1 H2 HB5 HB6 HK1 hx46 HPB
  go_wp2_with fail
  have hn := Below.new1 w6 (.cells (bCells bndsA).toArray 67)
  refine (equalB_any bndsA bndsA _ _ _ ((HPB6.out.below hn (Nat.le_refl _)).mono hn.size) (bnds_block (heap_new0 w6 (.cells (bCells bndsA).toArray 67)) (by decide)) (Nat.le_refl _)).mono ?_
  rintro e w7 ⟨rfl, hb⟩
  rw [show sameB bndsA bndsA = true from by decide]
  have hb67 := hn.trans (hb.mono hn.size)
  have HB8 := Lib.hid (HB7.out.trans (hb67.mono HB7.out.size))
  obtain ⟨_, a', c', hae, hgc, _, hrow⟩ := HPB6.out.below hb67 (Nat.le_refl _)
  cases hae
  obtain ⟨gb, go, rfl, hgb, hcell⟩ := hrow (by decide)
  have e0 : w7.cell? ⟨gb, go + 4, none⟩ = some (.int .u64 7) := hcell 4 (by decide)
  have zg : gb < w7.heap.size := by have := hb67.size; omega
  clear hn hb hb67 HPB6 hrow hcell HB7
  go_wp2_with fail
  refine (ones_any 7 (by decide) _).mono ?_
  rintro e w8 ⟨rfl, rfl⟩
  rw [popc7]
  clear e0
  go_wp2_with fail
  refine (mkB _).mono ?_
  rintro e w9 ⟨bv, rv, rfl, hm, hb1⟩
  have HK1 := Lib.hid hb1
  have H1 := Lib.hid (hm.bnds' (by decide)); have H2 := Lib.hid (hm.rls' (by decide) shortB)
  obtain ⟨ra, rn, rc, rfl⟩ := hm.slice
  obtain ⟨ba, bn, bc, rfl⟩ : ∃ a n c, bv = .slice a n c := by
    obtain ⟨g, _, h, _⟩ := hm.bnds
    exact ⟨_, _, _, h⟩
  clear hm hb1
  have HB9 := Lib.hid (HB8.out.trans (HK1.out.mono HB8.out.size))
  go_wp2_with fail
  refine (propagate_yes pB _ _ _ H1.out H2.out (by have := HB9.out.size; omega) (Nat.le_refl _) (u64_of12 okB) (HT.out.below HB9.out hw0) okB).mono ?_
  rintro e w10 ⟨pb, pl, rfl, hpb, hpl, hb4⟩
  rw [valPropB.1]
  rw [valPropB2] at hpl
  obtain ⟨g3a, g3n, g3c, rfl⟩ : ∃ a n c, pb = .slice a n c := by obtain ⟨a, c, h⟩ := hpb.slice; exact ⟨_, _, _, h⟩
  obtain ⟨ka, kc, rfl⟩ : ∃ a c, pl = .slice a 7 c := hpl.slice
  have HB10 := Lib.hid (HB9.out.trans (hb4.mono HB9.out.size)); have HPL := Lib.hid hpl
  clear hb4 hpb hpl H1 H2 HB8 HB9 HK1
  go_wp2_with fail
  have hn := Below.new4 w10 (.cells #[.int .i64 1] 3) (.cells #[.int .i64 1] 3) (.cells #[.int .i64 5] 3) (.cells (knownC w10.heap.size) 56)
  have hkf := known_fcts w10
  have hpl2 := (HPL.out.below hn (Nat.le_refl _)).mono hn.size
  have hbn := HB10.out.trans (hn.mono HB10.out.size)
  refine abs_calls (fun Z => Fcts Z Z.heap.size (.slice (some ⟨w10.heap.size + 1 + 1 + 1, 0, none⟩) 7 7) factsB ∧ Fcts Z Z.heap.size (.slice ka 7 kc) factsB ∧ Below w.heap.size w Z) ⟨hkf, hpl2, hbn⟩ ?_
  clear hn hkf hpl2 hbn HPL HB10
  rintro W11 ⟨hkf, hpl, hbn⟩
  have HKF := Lib.hid hkf; have HPL := Lib.hid hpl; have HB11 := Lib.hid hbn
  clear hkf hpl hbn
  refine (mkA _).mono ?_
  rintro e w12 ⟨bv, rv, rfl, hm, hb1⟩
  have HK1 := Lib.hid hb1
  have H1 := Lib.hid (hm.bnds' (by decide)); have H2 := Lib.hid (hm.rls' (by decide) shortA)
  obtain ⟨ra, rn, rc, rfl⟩ := hm.slice
  obtain ⟨ba, bn, bc, rfl⟩ : ∃ a n c, bv = .slice a n c := by
    obtain ⟨g, _, h, _⟩ := hm.bnds
    exact ⟨_, _, _, h⟩
  clear hm hb1
  have HX12 := HK1
  have HB12 := Lib.hid (HB11.out.trans (HK1.out.mono HB11.out.size))
  go_wp2_with fail
  refine (core_any pA _ _ _ H1.out H2.out (by have := HB12.out.size; omega) (Nat.le_refl _) (u64_of12 okA) (HT.out.below HB12.out hw0)).mono ?_
  rintro e w13 ⟨cv, rfl, hc, hb2⟩
  rw [valCoreA]
  obtain ⟨ca, cn, cc, rfl⟩ : ∃ a n c, cv = .slice a n c := by obtain ⟨a, c, h⟩ := hc.slice; exact ⟨_, _, _, h⟩
  have HX13 := Lib.hid (HX12.out.trans (hb2.mono HX12.out.size)); have HB13 := Lib.hid (HB12.out.trans (hb2.mono HB12.out.size))
  clear hc hb2 H1 H2 HX12 HB12 HK1
  go_wp2_with fail
  refine (mkA _).mono ?_
  rintro e w14 ⟨bv, rv, rfl, hm, hb1⟩
  have HK1 := Lib.hid hb1
  have H1 := Lib.hid (hm.bnds' (by decide)); have H2 := Lib.hid (hm.rls' (by decide) shortA)
  obtain ⟨ra, rn, rc, rfl⟩ := hm.slice
  obtain ⟨ba, bn, bc, rfl⟩ : ∃ a n c, bv = .slice a n c := by
    obtain ⟨g, _, h, _⟩ := hm.bnds
    exact ⟨_, _, _, h⟩
  clear hm hb1
  have HX14 := Lib.hid (HX13.out.trans (HK1.out.mono HX13.out.size))
  have HB14 := Lib.hid (HB13.out.trans (HK1.out.mono HB13.out.size))
  go_wp2_with fail
  refine (solve_yes pA 9 _ _ _ H1.out H2.out (by have := HB14.out.size; omega) (Nat.le_refl _) (u64_of12 okA) (HT.out.below HB14.out hw0) okA (by decide)).mono ?_
  rintro e w15 ⟨hso, hb2⟩
  rw [valSolveA] at hso
  rcases hso with ⟨h, _⟩ | ⟨_, sv, rfl, hso⟩
  · cases h
  have hus : Uss w15 w15.heap.size sv [[7, 0, 7], [3, 4, 7], [5, 2, 7], [6, 1, 7]] := hso.uss (by decide) (by decide)
  obtain ⟨sa, sc, rfl⟩ : ∃ a c, sv = .slice a 4 c := by
    obtain ⟨cs, hc, _⟩ := hso
    rcases hc.2 with ⟨h, h0⟩ | ⟨g, cap, cur, h, _⟩
    · cases h0
    · exact ⟨_, _, h⟩
  have HUS := Lib.hid hus; have HX15 := Lib.hid (HX14.out.trans (hb2.mono HX14.out.size)); have HB15 := Lib.hid (HB14.out.trans (hb2.mono HB14.out.size))
  have hsf := sameFacts_any factsB factsB _ _ w15 ((HPL.out.below HX15.out (Nat.le_refl _)).mono HX15.out.size) ((HKF.out.below HX15.out (Nat.le_refl _)).mono HX15.out.size) (Nat.le_refl _)
  rw [show sameFs factsB factsB = true by unfold sameFs; simp] at hsf
  have HSF := Lib.hid hsf
  clear hus hso hb2 H1 H2 HX13 HX14 HB13 HB14 HK1 hsf
  go_wp2_with fail
  refine HSF.out.mono ?_
  rintro e w16 ⟨rfl, hb16⟩
  have HB16 := Lib.hid (HB15.out.trans (hb16.mono HB15.out.size)); have HUS16 := Lib.hid (HUS.out.below hb16 (Nat.le_refl _))
  have hs1516 := hb16.size
  clear hb16 HSF HX15
  go_wp2_with fail
  have h5 := heap_new5 w16 (.cells #[.int .u64 7, .int .u64 0, .int .u64 7] 65) (.cells #[.int .u64 3, .int .u64 4, .int .u64 7] 65) (.cells #[.int .u64 5, .int .u64 2, .int .u64 7] 65) (.cells #[.int .u64 6, .int .u64 1, .int .u64 7] 65) (.cells #[.slice (some ⟨w16.heap.size, 0, none⟩) 3 3, .slice (some ⟨w16.heap.size + 1, 0, none⟩) 3 3, .slice (some ⟨w16.heap.size + 1 + 1, 0, none⟩) 3 3, .slice (some ⟨w16.heap.size + 1 + 1 + 1, 0, none⟩) 3 3] 26)
  have hn := Below.new5 w16 (.cells #[.int .u64 7, .int .u64 0, .int .u64 7] 65) (.cells #[.int .u64 3, .int .u64 4, .int .u64 7] 65) (.cells #[.int .u64 5, .int .u64 2, .int .u64 7] 65) (.cells #[.int .u64 6, .int .u64 1, .int .u64 7] 65) (.cells #[.slice (some ⟨w16.heap.size, 0, none⟩) 3 3, .slice (some ⟨w16.heap.size + 1, 0, none⟩) 3 3, .slice (some ⟨w16.heap.size + 1 + 1, 0, none⟩) 3 3, .slice (some ⟨w16.heap.size + 1 + 1 + 1, 0, none⟩) 3 3] 26)
  have hu2 := uss_four (x := [7, 0, 7]) (y := [3, 4, 7]) (z := [5, 2, 7]) (u := [6, 1, 7]) (g := w16.heap.size) (b := w16.heap.size + 4) h5.2.2.2.2 h5.1 h5.2.1 h5.2.2.1 h5.2.2.2.1 (by decide)
  have hu1 := (HUS16.out.below hn hs1516).mono (show w15.heap.size ≤ _ from Nat.le_trans hs1516 hn.size)
  refine (sameSets_any [[7, 0, 7], [3, 4, 7], [5, 2, 7], [6, 1, 7]] [[7, 0, 7], [3, 4, 7], [5, 2, 7], [6, 1, 7]] _ _ _ hu1 hu2 (Nat.le_refl _)).mono ?_
  rintro e w17 ⟨rfl, hb⟩
  rw [show sameS [[7, 0, 7], [3, 4, 7], [5, 2, 7], [6, 1, 7]] [[7, 0, 7], [3, 4, 7], [5, 2, 7], [6, 1, 7]] = true from by decide]
  have HB17 := Lib.hid (HB16.out.trans ((hn.trans (hb.mono hn.size)).mono HB16.out.size))
  clear h5 hn hu1 hu2 hb HUS16 HUS hpb
  go_wp2_with fail
  refine (works_any _ (HT.out.below HB17.out hw0) (by have := HB17.out.size; omega)).mono ?_
  rintro e1 w9 ⟨rfl, hb9⟩
  have HF := Lib.hid (HB17.out.trans (hb9.mono HB17.out.size))
  clear hb9
  go_wp2
  go_ret
  exact ⟨rfl, HF.out⟩
end Go.Proofs.YtilbbnjfaoldoaaDoor
