/- The reference: run. -/
import Derived.Test.YtilbbnjfaoldoaaGreatDoorPlainD
import Derived.Test.YtilbbnjfaoldoaaGreatDoorPlainF
namespace Go.Proofs.YtilbbnjfaoldoaaGreatDoor
open Go Go.RowKit
attribute [local go_sem] cell_grow u64_sAnd u64_sOr u64_sDiff sDiff_all zeqI zneI sAnd_bit_zero sAnd_bit_zeroN sAnd_bit_nonzero rowOf_grow rowOk_grow rowOf_alloc rowOk_alloc

/-- What stays true while the reference runs: st is the program's state, all and fs are the reference's own. -/
structure RunAt (p : Prob) (rs : Bool) (w : World) (bv rv : Value) (st : St) (all : List Bnd) (fs : List Fact) (av lv : Value) (W : World) : Prop where
  eq : st.1 = padB all
  good : Good p st
  alen : all.length = p.bounds.length
  facts : rs = true → fs = st.2
  few : fs.length + openN st.1 ≤ 96
  fit : ∀ i, i < fs.length → FitN p.bounds.length (fget fs i)
  short : ∀ i, i < fs.length → (fget fs i).why.length ≤ 96
  alls : W.ownsRow (w.heap.size + 1) 47 2 av all.length (bCells all)
  own : FOwn W (w.heap.size + 1) lv fs
  box : W.heap[w.heap.size]? = some (.cells #[bv, rv] 25 (0, 0))
  low : Below w.heap.size w W
theorem RunAt.below {p : Prob} {rs : Bool} {w : World} {bv rv : Value} {st : St} {all : List Bnd} {fs : List Fact} {av lv : Value} {W W' : World} (h : RunAt p rs w bv rv st all fs av lv W) (hb : Below W.heap.size W W') : RunAt p rs w bv rv st all fs av lv W' :=
  ⟨h.eq, h.good, h.alen, h.facts, h.few, h.fit, h.short, own_ck h.alls (CK.below hb), h.own.ck (CK.below hb), heap_later h.box hb (Array.getElem?_eq_some_iff.1 h.box).1, h.low.trans (hb.mono h.low.size)⟩
theorem RunAt.alen8 {p : Prob} {rs : Bool} {w : World} {bv rv : Value} {st : St} {all : List Bnd} {fs : List Fact} {av lv : Value} {W : World} (h : RunAt p rs w bv rv st all fs av lv W) : all.length ≤ 8 := by
  have := h.good.len; rw [h.eq] at this; unfold padB at this; simp at this; omega
theorem RunAt.bnds {p : Prob} {rs : Bool} {w : World} {bv rv : Value} {st : St} {all : List Bnd} {fs : List Fact} {av lv : Value} {W : World} (h : RunAt p rs w bv rv st all fs av lv W) : Bnds W W.heap.size av all :=
  bnds_own h.alls rfl (by have := h.alen8; omega)
theorem tryE_pad (r : Rl) (all : List Bnd) (v e : Nat) (hv : v < all.length) : tryE r (padB all) v e = if !possB (withB all v e false) r then some true else if !possB (withB all v e true) r then some false else none := by
  unfold tryE; rw [padB_with e false hv, padB_with e true hv, (BEq2.pad _).poss, (BEq2.pad _).poss]
theorem RunAt.step {p : Prob} {rs : Bool} {w : World} {bv rv : Value} {st : St} {all : List Bnd} {fs : List Fact} {av lv : Value} {W : World} (h : RunAt p rs w bv rv st all fs av lv W) {v e j : Nat} {inn : Bool} {y : List Int} {av' lv' : Value} {W' : World} (hv : v < all.length) (he : e < 12) (ho : (openE (bget st.1 v)).testBit e = true) (ht : tryE (rget p.rules j) st.1 v e = some inn) (hy : y = if rs then whyOf p fs ⟨v, e, inn, j, []⟩ else [])
    (hf : FOwn W' (w.heap.size + 1) lv' (fs ++ [⟨v, e, inn, j, y⟩])) (ha : W'.ownsRow (w.heap.size + 1) 47 2 av' all.length (bCells (withB all v e inn))) (hb : W'.heap[w.heap.size]? = some (.cells #[bv, rv] 25 (0, 0))) (hl : Below w.heap.size w W') :
    RunAt p rs w bv rv (stepE p rs j v st e) (withB all v e inn) (fs ++ [⟨v, e, inn, j, y⟩]) av' lv' W' ∧ openN (stepE p rs j v st e).1 < openN st.1 := by
  have hst : stepE p rs j v st e = (withB st.1 v e inn, if rs then st.2 ++ [⟨v, e, inn, j, whyOf p st.2 ⟨v, e, inn, j, []⟩⟩] else st.2) := by unfold stepE; rw [ht]
  have hv8 : v < 8 := by have := h.alen8; omega
  have hn := openN_withB st.1 v e inn (by rw [h.good.len]; exact hv8) he ho
  have hg := (h.good.step (rs := rs) (j := j) hv8 he ho).1
  have hfew := h.few
  refine ⟨⟨by rw [hst]; show withB st.1 v e inn = _; rw [h.eq]; exact padB_with e inn hv, hg, by rw [withB_length]; exact h.alen, fun hrs => ?_, ?_, fun i hi => ?_, fun i hi => ?_, by rw [withB_length]; exact ha, hf, hb, hl⟩, by rw [hst]; show openN (withB st.1 v e inn) < _; omega⟩
  · subst hrs; rw [hst, hy]; simp only [if_true]; rw [h.facts rfl]
  · rw [hst]; simp only [List.length_append, List.length_cons, List.length_nil]; omega
  · rw [fget_snoc]
    split
    · exact h.fit i (by assumption)
    · rw [if_pos (by simp at hi; omega)]
      exact ⟨v, e, rfl, by rw [← h.alen]; exact hv, rfl, he⟩
  · rw [fget_snoc]
    split
    · exact h.short i (by assumption)
    · rw [if_pos (by simp at hi; omega)]
      show y.length ≤ 96
      rw [hy]
      cases rs
      · simp
      · simp only [if_true]; exact Nat.le_trans (whyOf_length _ _ _) (by omega)
theorem RunAt.poss {p : Prob} {rs : Bool} {w : World} {bv rv : Value} {st : St} {all : List Bnd} {fs : List Fact} {av lv : Value} {W : World} (h : RunAt p rs w bv rv st all fs av lv W) (r : Rl) : possB st.1 r = possB all r := by
  rw [h.eq]; exact (BEq2.pad all).poss r
theorem S12.of_pad {b : List Bnd} (h : S12 (padB b)) : S12 b := fun x hx => h x (by unfold padB; exact List.mem_append_left _ hx)
theorem RunAt.s12 {p : Prob} {rs : Bool} {w : World} {bv rv : Value} {st : St} {all : List Bnd} {fs : List Fact} {av lv : Value} {W : World} (h : RunAt p rs w bv rv st all fs av lv W) : S12 all := by
  have := h.good.s12; rw [h.eq] at this; exact S12.of_pad this
theorem Ints.via {w w1 w2 : World} {B N : Nat} {v : Value} {xs : List Int} (h : Ints w1 B v xs) (h1 : Below N w w1) (h2 : Below N w w2) (hB : B ≤ N) : Ints w2 B v xs := by
  obtain ⟨hn, a, cap, hv, hc, hm, hr⟩ := h
  refine ⟨hn, a, cap, hv, hc, hm, fun h0 => ?_⟩
  obtain ⟨b, off, ha, hbB, hcell⟩ := hr h0
  exact ⟨b, off, ha, hbB, fun i hi => (h2.cell (p := ⟨b, off + i, none⟩) (Nat.lt_of_lt_of_le hbB hB)).trans ((h1.cell (p := ⟨b, off + i, none⟩) (Nat.lt_of_lt_of_le hbB hB)).symm.trans (hcell i hi))⟩
/-- The reference's run, read off the program's. -/
def refRes (p : Prob) (rs : Bool) : St × Int := runR p rs (padB p.bounds, [])
def RunPost (p : Prob) (rs : Bool) (w : World) (e : Ending) (w' : World) : Prop := ∃ av lv all fs, e = .returned (.tuple #[av, lv, .int .i64 (refRes p rs).2]) ∧ (refRes p rs).1.1 = padB all ∧ all.length = p.bounds.length ∧ (rs = true → fs = (refRes p rs).1.2) ∧ (Bnds w' w'.heap.size av all ∧ w'.ownsRow w.heap.size 47 2 av all.length (bCells all)) ∧ Fcts w' w'.heap.size lv fs ∧ Below w.heap.size w w'
/-- The flag 'changed', and what it says. -/
structure ChR (st st' : St) (ch : Bool) : Prop where
  flag : ch = decide (openN st'.1 < openN st.1)
  le : openN st'.1 ≤ openN st.1
  same : ¬ openN st'.1 < openN st.1 → st'.1 = st.1
theorem ChR.refl (st : St) : ChR st st false := ⟨by rw [decide_eq_false (Nat.lt_irrefl _)], Nat.le_refl _, fun _ => rfl⟩
theorem ChR.down {st st' st2 : St} {ch : Bool} (h : ChR st st' ch) (hd : openN st2.1 < openN st'.1) : ChR st st2 true := by
  have := h.le
  exact ⟨by rw [decide_eq_true (by omega)], by omega, fun hh => absurd (by omega) hh⟩
end Go.Proofs.YtilbbnjfaoldoaaGreatDoor
