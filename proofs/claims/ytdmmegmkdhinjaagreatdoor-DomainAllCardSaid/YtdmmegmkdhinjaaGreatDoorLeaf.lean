/- The leaves of a search are just all solutions, each once. In plain Lean. -/
import Derived.Test.YtdmmegmkdhinjaaGreatDoorTree
import Derived.Test.YtdmmegmkdhinjaaGreatDoorPlainZ
namespace Go.Proofs.YtdmmegmkdhinjaaGreatDoor
open Go Go.RowKit

/-- Values of the first variables, from their domains. -/
def InF (n : Nat) (f vs : List Nat) : Prop := vs.length = n ∧ ∀ i, i < n → (nget f i).testBit (nget vs i) = true
theorem size_sub2 {x d : Nat} (hx : x < 65536) (hd : d < 65536) (h : Sub x d) : sizeD x ≤ sizeD d := by
  unfold sizeD
  refine List.Sublist.length_le ?_
  unfold elems
  have : (List.range 64).filter x.testBit = ((List.range 64).filter d.testBit).filter x.testBit := by
    rw [List.filter_filter]
    refine List.filter_congr fun i _ => ?_
    cases hb : x.testBit i with
    | false => rfl
    | true => rw [h i hb]; rfl
  rw [this]
  exact List.filter_sublist
theorem run_sizes {p : Dp} (hp : probD p = true) (f : List Nat) (hf : Fok f) (i : Nat) : sizeD (nget (runD p false f).1 i) ≤ sizeD (nget f i) :=
  size_sub2 ((run_good hp hf).f.lt i) (hf.lt i) (run_sub f i)
/-- A domain with one value. -/
theorem one_elem {d : Nat} (hd : d < 65536) (h0 : d ≠ 0) (h2 : sizeD d < 2) : ∃ v, v < 16 ∧ d = bitN v ∧ elems d = [v] := by
  have h1 := size_pos hd h0
  obtain ⟨v, hv⟩ := List.length_eq_one_iff.1 (show (elems d).length = 1 by unfold sizeD at h1 h2; omega)
  have hm : v ∈ elems d := by rw [hv]; simp
  refine ⟨v, elems16 hd hm, ?_, hv⟩
  apply Nat.eq_of_testBit_eq
  intro i
  rw [bitN_testBit, Bool.eq_iff_iff, decide_eq_true_eq]
  constructor
  · intro hb
    have hi : i < 16 := by
      apply Classical.byContradiction
      intro hge
      rw [Nat.testBit_lt_two_pow (Nat.lt_of_lt_of_le hd (show 65536 ≤ 2 ^ i from Nat.pow_le_pow_right (n := 2) (i := 16) (by decide) (by omega)))] at hb
      cases hb
    have : i ∈ elems d := mem_elems.2 ⟨by omega, hb⟩
    rw [hv, List.mem_singleton] at this
    exact this.symm
  · rintro rfl
    exact (mem_elems.1 hm).2
theorem leaf_vals {g : List Nat} (hg : ∀ i, nget g i < 65536) : ∀ n, (∀ i, i < n → nget g i ≠ 0) → (∀ i, i < n → sizeD (nget g i) < 2) → ∃ vs : List Nat, vs.length = n ∧ (∀ i, i < n → nget g i = bitN (nget vs i) ∧ nget vs i < 16) ∧ solD n g = vs.map natI
  | 0, _, _ => ⟨[], rfl, fun i hi => absurd hi (Nat.not_lt_zero _), rfl⟩
  | n + 1, h0, h2 => by
    obtain ⟨vs, hl, hv, hs⟩ := leaf_vals hg n (fun i hi => h0 i (by omega)) (fun i hi => h2 i (by omega))
    obtain ⟨v, hv16, he, hel⟩ := one_elem (hg n) (h0 n (Nat.lt_succ_self _)) (h2 n (Nat.lt_succ_self _))
    refine ⟨vs ++ [v], by simp [hl], fun i hi => ?_, by rw [solD_succ, hs, hel, List.map_append]⟩
    by_cases hin : i < n
    · have : nget (vs ++ [v]) i = nget vs i := by unfold nget; rw [List.getElem?_append_left (by omega)]
      rw [this]; exact hv i hin
    · have hin : i = n := by omega
      subst hin
      have : nget (vs ++ [v]) i = v := by unfold nget; rw [List.getElem?_append_right (by omega), hl, Nat.sub_self]; rfl
      rw [this]; exact ⟨he, hv16⟩
theorem nz_of {g : List Nat} {n : Nat} (hl : n ≤ g.length) (h : (g.take n).contains 0 = false) : ∀ i, i < n → nget g i ≠ 0 := fun i hi e => by
  rw [Bool.eq_false_iff] at h
  apply h
  rw [List.contains_iff_mem]
  refine List.mem_iff_getElem.2 ⟨i, by rw [List.length_take]; omega, ?_⟩
  rw [List.getElem_take]
  unfold nget at e
  rw [List.getElem?_eq_getElem (by omega)] at e
  exact e
theorem contains_of {g : List Nat} {n : Nat} (h : ∀ i, i < n → nget g i ≠ 0) : (g.take n).contains 0 = false := by
  rw [Bool.eq_false_iff]
  intro hc
  rw [List.contains_iff_mem] at hc
  obtain ⟨i, hi, e⟩ := List.mem_iff_getElem.1 hc
  rw [List.getElem_take] at e
  rw [List.length_take] at hi
  refine h i (by omega) ?_
  unfold nget
  rw [List.getElem?_eq_getElem (by omega)]
  exact e
theorem rule_pos {r : Dr} {n : Int} (hr : ruleD r n = true) : 0 < r.vars.length := by
  by_cases k1 : r.kind = 1
  · have hf := (ruleD_parts hr).2.2.2.2.2
    unfold formD at hf
    rw [if_pos k1] at hf
    simp only [Bool.and_eq_true, decide_eq_true_eq] at hf
    omega
  · by_cases k2 : r.kind = 2
    · have hf := (ruleD_parts hr).2.2.2.2.2
      unfold formD at hf
      rw [if_neg k1, if_pos k2] at hf
      simp only [Bool.and_eq_true, decide_eq_true_eq] at hf
      omega
    · rw [rule_two hr k1 k2]; decide
/-- Closed domains of one value each: the rules hold. -/
theorem closed_holds {p : Dp} (hp : probD p = true) {g vs : List Nat} (hl : vs.length = p.doms.length) (hg : ∀ i, i < p.doms.length → nget g i = bitN (nget vs i) ∧ nget vs i < 16) (hc : Closed p.rules g) : allHold p (vs.map natI) = true := by
  unfold allHold
  rw [List.all_eq_true]
  intro r hr
  obtain ⟨n, hn, rfl⟩ := mem_drget hr
  have hrd := (probD_parts hp).2.2.2.2 n hn
  have hvars := (ruleD_parts hrd).2.2.1
  have hpos := rule_pos hrd
  have hx := hvars 0 hpos
  have h16 : ∀ v ∈ vs, v < 16 := fun v hv => by
    obtain ⟨i, hi, rfl⟩ := List.mem_iff_getElem.1 hv
    have := (hg i (by omega)).2
    unfold nget at this
    rwa [List.getElem?_eq_getElem hi] at this
  have hof : ofD g (drget p.rules n).vars = (ownN vs (drget p.rules n).vars).map bitN := by
    unfold ofD ownN
    rw [List.map_map]
    refine List.map_congr_left fun x hx => ?_
    obtain ⟨k, hk, rfl⟩ := List.mem_iff_getElem.1 hx
    have := hvars k hk
    rw [show iget (drget p.rules n).vars k = (drget p.rules n).vars[k] by unfold iget; rw [List.getElem?_eq_getElem hk]; rfl] at this
    exact (hg _ (by omega)).1
  have hlen : (ownN vs (drget p.rules n).vars).length = (drget p.rules n).vars.length := by unfold ownN; rw [List.length_map]
  obtain ⟨v, hv⟩ : ∃ v, v = nget vs (iget (drget p.rules n).vars 0).toNat := ⟨_, rfl⟩
  have hs := hc _ hr 0 hpos v (by rw [(hg _ (by omega)).1, bitN_testBit, hv]; simp)
  have hget : nget ((ownN vs (drget p.rules n).vars).map bitN) 0 = bitN v := by rw [bits_nget _ (by rw [hlen]; exact hpos), ownN_get vs _ hpos, hv]
  unfold suppD at hs
  rw [hof, Bool.and_eq_true, Int.toNat_natCast] at hs
  have hset : ((ownN vs (drget p.rules n).vars).map bitN).set 0 (bitN v) = (ownN vs (drget p.rules n).vars).map bitN := by
    refine nat_ext (by rw [List.length_set]) fun j _ => ?_
    rw [nget_set]
    split
    · rename_i h; rw [← h.1, hget]
    · rfl
  rw [hset, poss_sing hrd (by rw [hlen]) (fun u hu => by
    obtain ⟨x, _, rfl⟩ := List.mem_map.1 hu
    exact nget_lt16 h16 _)] at hs
  rw [ownOf_nat]
  exact hs.2
theorem inF_sub {n : Nat} {f g vs : List Nat} (h : InF n f vs) (hs : SubF f g) : InF n g vs := ⟨h.1, fun i hi => hs i _ (h.2 i hi)⟩
/-- A propagation keeps the solutions. -/
theorem run_keeps {p : Dp} (hp : probD p = true) {f vs : List Nat} (hf : Fok f) (hi : InF p.doms.length f vs) (hh : allHold p (vs.map natI) = true) : InF p.doms.length (runD p false f).1 vs := by
  have h16 : ∀ v ∈ vs, v < 16 := fun v hv => by
    obtain ⟨i, hil, rfl⟩ := List.mem_iff_getElem.1 hv
    have h1 := hi.2 i (by rw [← hi.1]; exact hil)
    rw [show nget vs i = vs[i] by unfold nget; rw [List.getElem?_eq_getElem hil]; rfl] at h1
    apply Classical.byContradiction
    intro hge
    rw [Nat.testBit_lt_two_pow (Nat.lt_of_lt_of_le (hf.lt i) (show 65536 ≤ 2 ^ vs[i] from Nat.pow_le_pow_right (n := 2) (i := 16) (by decide) (by omega)))] at h1
    cases h1
  have := run_over (p := p) (rs := false) hp (g := padD (vs.map bitN)) (f := f) (fun j => by
    rw [padD_get]
    by_cases hj : j < vs.length
    · rw [bits_nget vs hj]; exact bit16 (nget_lt16 h16 j)
    · rw [nget_len (by rw [List.length_map]; omega)]; decide) (closed_sol hp hi.1 h16 hh) hf.lt (fun j => by
    rw [padD_get]
    by_cases hj : j < vs.length
    · rw [bits_nget vs hj]; exact Sub.bit (hi.2 j (by rw [← hi.1]; exact hj))
    · rw [nget_len (by rw [List.length_map]; omega)]; exact fun i h => by rw [Nat.zero_testBit] at h; cases h)
  refine ⟨hi.1, fun i hi' => this i _ ?_⟩
  rw [pad_bits hi.1 hi', bitN_testBit]; simp
theorem not_void {p : Dp} {g : List Nat} (h : ∀ i, i < p.doms.length → nget g i ≠ 0) : ¬ Void p g := fun ⟨y, hy, e⟩ => h y hy e
/-- Each leaf is a solution. -/
theorem leaf_sound {p : Dp} (hp : probD p = true) : ∀ (k : Nat) (f : List Nat), Fok f → totalD f < k → ∀ l ∈ leafD p k f, ∃ vs : List Nat, l = vs.map natI ∧ InF p.doms.length f vs ∧ allHold p l = true
  | 0, _, _, ht => absurd ht (Nat.not_lt_zero _)
  | k + 1, f, hf, ht => by
    intro l hl
    have hg : Good (runD p false f) := run_good hp hf
    have hn8 := (probD_parts hp).2.1
    have hg8 : p.doms.length ≤ (runD p false f).1.length := by rw [hg.f.len]; exact hn8
    unfold leafD at hl
    split at hl
    · cases hl
    · rename_i hc
      have hnz := nz_of hg8 (by simpa using hc)
      split at hl
      · rename_i hlb
        rw [List.mem_singleton] at hl
        subst hl
        have h2 : ∀ i, i < p.doms.length → sizeD (nget (runD p false f).1 i) < 2 := by
          rcases label_cases (runD p false f).1 p.doms.length with ⟨_, h⟩ | ⟨x, h, _⟩
          · exact h
          · rw [h] at hlb; omega
        obtain ⟨vs, hvl, hv, hs⟩ := leaf_vals hg.f.lt p.doms.length hnz h2
        refine ⟨vs, hs, ⟨hvl, fun i hi => ?_⟩, ?_⟩
        · refine run_sub (p := p) (rs := false) f i _ ?_
          rw [(hv i hi).1, bitN_testBit]; simp
        · rw [hs]
          rcases run_fix hp hf (rs := false) with h | h
          · exact absurd h (not_void hnz)
          · exact closed_holds hp hvl hv h
      · rename_i hlb
        obtain ⟨v, hv, hl2⟩ := List.mem_flatMap.1 hl
        have hch := child_fok hp hf hv hlb
        obtain ⟨vs, h1, h2, h3⟩ := leaf_sound hp k _ hch.1 (by omega) l hl2
        refine ⟨vs, h1, ⟨h2.1, fun i hi => ?_⟩, h3⟩
        have h4 := h2.2 i hi
        rw [nget_set] at h4
        refine run_sub (p := p) (rs := false) f i _ ?_
        split at h4
        · rename_i hx
          rw [bitN_testBit, decide_eq_true_eq] at h4
          rw [← h4, ← hx.1]
          exact (mem_elems.1 hv).2
        · exact h4
/-- Each solution is a leaf. -/
theorem leaf_all {p : Dp} (hp : probD p = true) : ∀ (k : Nat) (f : List Nat), Fok f → totalD f < k → ∀ vs : List Nat, InF p.doms.length f vs → allHold p (vs.map natI) = true → vs.map natI ∈ leafD p k f
  | 0, _, _, ht => absurd ht (Nat.not_lt_zero _)
  | k + 1, f, hf, ht => by
    intro vs hi hh
    have hg : Good (runD p false f) := run_good hp hf
    have hn8 := (probD_parts hp).2.1
    have hk := run_keeps hp hf hi hh
    have hnz : ∀ i, i < p.doms.length → nget (runD p false f).1 i ≠ 0 := fun i hi' e => by
      have := hk.2 i hi'
      rw [e, Nat.zero_testBit] at this
      cases this
    unfold leafD
    rw [if_neg (by rw [contains_of hnz]; simp)]
    split
    · rename_i hlb
      have h2 : ∀ i, i < p.doms.length → sizeD (nget (runD p false f).1 i) < 2 := by
        rcases label_cases (runD p false f).1 p.doms.length with ⟨_, h⟩ | ⟨x, h, _⟩
        · exact h
        · rw [h] at hlb; omega
      obtain ⟨us, hul, hu, hs⟩ := leaf_vals hg.f.lt p.doms.length hnz h2
      have : us = vs := nat_ext (by rw [hul, hk.1]) fun i hi' => by
        have h1 := hk.2 i (by omega)
        rw [(hu i (by omega)).1, bitN_testBit, decide_eq_true_eq] at h1
        exact h1
      rw [hs, this]
      simp
    · rename_i hlb
      rcases label_cases (runD p false f).1 p.doms.length with ⟨h, _⟩ | ⟨x, h, hx, h2⟩
      · rw [h] at hlb; omega
      · have hv : nget vs x ∈ elems (nget (runD p false f).1 x) := by
          have h1 := hk.2 x hx
          refine mem_elems.2 ⟨?_, h1⟩
          apply Classical.byContradiction
          intro hge
          rw [Nat.testBit_lt_two_pow (Nat.lt_of_lt_of_le (hg.f.lt x) (show 65536 ≤ 2 ^ nget vs x from Nat.pow_le_pow_right (n := 2) (i := 16) (by decide) (by omega)))] at h1
          cases h1
        have hch := child_fok hp hf (v := nget vs x) (by rw [h, Int.toNat_natCast]; exact hv) hlb
        rw [h, Int.toNat_natCast] at hch ⊢
        refine List.mem_flatMap.2 ⟨nget vs x, hv, leaf_all hp k _ hch.1 (by omega) vs ⟨hk.1, fun i hi' => ?_⟩ hh⟩
        rw [nget_set]
        split
        · rename_i hxi
          rw [bitN_testBit, hxi.1]; simp
        · exact hk.2 i hi'
theorem map_natI {a b : List Nat} (h : a.map natI = b.map natI) : a = b := by
  refine nat_ext (by have := congrArg List.length h; rwa [List.length_map, List.length_map] at this) fun i _ => ?_
  have h1 := iget_nat a i
  rw [h, iget_nat] at h1
  omega
/-- No solution comes twice. -/
theorem leaf_once {p : Dp} (hp : probD p = true) : ∀ (k : Nat) (f : List Nat), Fok f → totalD f < k → (leafD p k f).Nodup
  | 0, _, _, ht => absurd ht (Nat.not_lt_zero _)
  | k + 1, f, hf, ht => by
    unfold leafD
    split
    · exact List.Pairwise.nil
    · split
      · exact List.pairwise_singleton _ _
      · rename_i hlb
        have hg : Good (runD p false f) := run_good hp hf
        have hn8 := (probD_parts hp).2.1
        unfold List.Nodup
        rw [List.pairwise_flatMap]
        refine ⟨fun v hv => ?_, ?_⟩
        · have hch := child_fok hp hf hv hlb
          exact leaf_once hp k _ hch.1 (by omega)
        · rcases label_cases (runD p false f).1 p.doms.length with ⟨h, _⟩ | ⟨x, h, hx, h2⟩
          · rw [h] at hlb; omega
          · have hch := fun v hv => child_fok hp hf (v := v) hv hlb
            rw [h, Int.toNat_natCast] at hch ⊢
            refine List.Pairwise.imp_of_mem ?_ (elems_nodup (nget (runD p false f).1 x))
            intro a b ha hb hab l hl m hm e
            subst e
            obtain ⟨us, hu1, hu2, _⟩ := leaf_sound hp k _ (hch a ha).1 (by have := (hch a ha).2; omega) l hl
            obtain ⟨ws, hw1, hw2, _⟩ := leaf_sound hp k _ (hch b hb).1 (by have := (hch b hb).2; omega) l hm
            have : us = ws := map_natI (by rw [← hu1, hw1])
            subst this
            have e1 := hu2.2 x hx
            have e2 := hw2.2 x hx
            rw [nget_set, if_pos ⟨rfl, by rw [hg.f.len]; omega⟩, bitN_testBit, decide_eq_true_eq] at e1 e2
            omega
end Go.Proofs.YtdmmegmkdhinjaaGreatDoor
