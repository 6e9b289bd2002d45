/- No number can be left out of a Why of a propagation, and a cut is not right twice. In plain Lean. -/
import Derived.Test.YtdmmegmkdhinjaaDoorPlainK
import Derived.Test.YtdmmegmkdhinjaaDoorBG
namespace Go.Proofs.YtdmmegmkdhinjaaDoor
open Go Go.RowKit

/-- Each cut is a reason's. -/
def MadeL (p : Dp) (l : List Cut) : Prop := ∀ k, k < l.length → ∃ x v n : Int, cget l k = reasonD p (l.take k) ⟨x, v, n, []⟩
theorem MadeL.snoc {p : Dp} {l : List Cut} (h : MadeL p l) (x v n : Int) : MadeL p (l ++ [reasonD p l ⟨x, v, n, []⟩]) := fun k hk => by
  rw [cget_snoc]
  by_cases h1 : k < l.length
  · rw [if_pos h1, List.take_append_of_le_length (by omega)]
    exact h k h1
  · have : k = l.length := by simp at hk; omega
    subst this
    rw [if_neg (by omega), if_pos rfl, List.take_append_of_le_length (Nat.le_refl _), List.take_length]
    exact ⟨x, v, n, rfl⟩
theorem MadeL.cut {p : Dp} {n i : Nat} {st : Sd} (h : MadeL p st.2) (v : Nat) : MadeL p (cutV p true n i st v).2 := by
  unfold cutV
  dsimp only
  split
  · exact h
  · exact h.snoc _ _ _
theorem MadeL.cuts {p : Dp} {n i : Nat} : ∀ (vs : List Nat) {st : Sd}, MadeL p st.2 → MadeL p (vs.foldl (cutV p true n i) st).2
  | [], _, h => h
  | v :: vs, _, h => MadeL.cuts vs (h.cut v)
theorem MadeL.places {p : Dp} {n : Nat} : ∀ (is : List Nat) {st : Sd}, MadeL p st.2 → MadeL p (placesD p true n is st).1.2
  | [], _, h => h
  | i :: is, st, h => by
    have h1 : MadeL p (sweepD p true n i st).2 := MadeL.cuts _ h
    rw [placesD_cons]
    split
    · exact h1
    · exact MadeL.places is h1
theorem MadeL.rules {p : Dp} : ∀ (ns : List Nat) {st : Sd}, MadeL p st.2 → MadeL p (rulesD p true ns st).1.2
  | [], _, h => h
  | n :: ns, st, h => by
    have h1 := MadeL.places (n := n) (List.range (drget p.rules n).vars.length) h
    rw [rulesD_cons]
    split
    · exact MadeL.rules ns h1
    · exact h1
theorem MadeL.rounds {p : Dp} : ∀ (k : Nat) {st : Sd}, MadeL p st.2 → MadeL p (roundsD p true k st).2
  | 0, _, h => h
  | k + 1, st, h => by
    have h1 := MadeL.rules (List.range p.rules.length) h
    rw [roundsD_succ]
    split
    · split
      · exact h1
      · exact MadeL.rounds k h1
    · exact h1
theorem prop_made (p : Dp) : MadeL p (propD p).2 := by
  have h0 : MadeL p ([] : List Cut) := fun k hk => by simp at hk
  unfold propD runD
  split
  · exact h0
  · exact MadeL.rounds _ (st := (padD p.doms, [])) h0
/-- With more reasons there is no more support. -/
theorem expl_mono {p : Dp} (hp : probD p = true) {l : List Cut} {x v : Int} {n : Nat} (hn : n < p.rules.length) (hf : ∀ k, k < l.length → CFit (cget l k)) {ys xs : List Int} (hs : ∀ k ∈ ys, k ∈ xs) (hx : ∀ k ∈ xs, ∃ j : Nat, k = j ∧ j < l.length)
    (h : explD p l ⟨x, v, n, ys⟩ = true) : explD p l ⟨x, v, n, xs⟩ = true := by
  unfold explD at h ⊢
  show (!suppD (whyF p l ⟨x, v, n, xs⟩) (drget p.rules (n : Int).toNat) ((drget p.rules (n : Int).toNat).vars.idxOf x) v) = true
  have h : (!suppD (whyF p l ⟨x, v, n, ys⟩) (drget p.rules (n : Int).toNat) ((drget p.rules (n : Int).toNat).vars.idxOf x) v) = true := h
  rw [Int.toNat_natCast] at h ⊢
  rw [Bool.not_eq_true'] at h ⊢
  rw [Bool.eq_false_iff] at h ⊢
  intro hc
  refine h (suppD_mono ((probD_parts hp).2.2.2.2 n hn) (whyFold_lt xs (padD_ok hp).lt) (whyFold_lt ys (padD_ok hp).lt) (fun y u hu => ?_) hc)
  have h8 := padD_length (probD_parts hp).2.1
  unfold whyF at hu
  show (nget (ys.foldl (whyStep l x) (padD p.doms)) y).testBit u = true
  have hu : (nget (xs.foldl (whyStep l x) (padD p.doms)) y).testBit u = true := hu
  have fit : ∀ zs : List Int, (∀ k ∈ zs, k ∈ xs) → ∀ k ∈ zs, CFit (cget l k.toNat) := fun zs hz k hk => by
    obtain ⟨j, rfl, hj⟩ := hx k (hz k hk)
    rw [Int.toNat_natCast]; exact hf j hj
  have h1 := (whyFold_bit xs (fit xs fun _ h => h) h8 y u).1 hu
  exact (whyFold_bit ys (fit ys hs) h8 y u).2 ⟨h1.1, fun k hk => h1.2 k (hs k hk)⟩
theorem erase_twice {xs : List Int} {i k : Nat} (hik : i ≤ k) : ∀ z ∈ (xs.eraseIdx i).eraseIdx k, z ∈ xs.eraseIdx (k + 1) := fun z hz => by
  obtain ⟨j, hj, hjk, rfl⟩ := List.mem_eraseIdx_iff_getElem.1 hz
  rw [List.getElem_eraseIdx]
  split
  · rename_i h
    exact List.mem_eraseIdx_iff_getElem.2 ⟨j, _, by omega, rfl⟩
  · exact List.mem_eraseIdx_iff_getElem.2 ⟨j + 1, _, by omega, rfl⟩
theorem red_min {p : Dp} (hp : probD p = true) {l : List Cut} {x v : Int} {n : Nat} (hn : n < p.rules.length) (hf : ∀ k, k < l.length → CFit (cget l k)) : ∀ (i : Nat) (xs : List Int), (∀ k ∈ xs, ∃ j : Nat, k = j ∧ j < l.length) →
    (∀ k, i ≤ k → k < xs.length → explD p l ⟨x, v, n, xs.eraseIdx k⟩ = false) → ∀ k, k < (redD p l ⟨x, v, n, []⟩ i xs).length → explD p l ⟨x, v, n, (redD p l ⟨x, v, n, []⟩ i xs).eraseIdx k⟩ = false
  | 0, xs, _, h, k, hk => h k (Nat.zero_le _) hk
  | i + 1, xs, hx, h, k, hk => by
    rw [redD_succ] at hk ⊢
    split at hk
    · rename_i h1
      rw [if_pos h1]
      refine red_min hp hn hf i _ (fun z hz => hx z (List.mem_of_mem_eraseIdx hz)) (fun k hk1 hk2 => ?_) k hk
      by_cases hil : i < xs.length
      · rw [List.length_eraseIdx_of_lt hil] at hk2
        have h2 := h (k + 1) (by omega) (by omega)
        rw [Bool.eq_false_iff] at h2 ⊢
        exact fun h3 => h2 (expl_mono hp hn hf (erase_twice hk1) (fun z hz => hx z (List.mem_of_mem_eraseIdx hz)) h3)
      · rw [List.eraseIdx_of_length_le (by omega)] at hk2
        omega
    · rename_i h1
      rw [if_neg h1]
      refine red_min hp hn hf i _ hx (fun k hk1 hk2 => ?_) k hk
      by_cases hki : k = i
      · subst hki; exact Bool.eq_false_iff.2 h1
      · exact h k (by omega) hk2
/-- Without a number of its Why a cut is not explained. -/
theorem why_min {p : Dp} (hp : probD p = true) {i j : Nat} (hi : i < (propD p).2.length) (hj : j < (cget (propD p).2 i).why.length) :
    explD p ((propD p).2.take i) { cget (propD p).2 i with why := (cget (propD p).2 i).why.eraseIdx j } = false := by
  obtain ⟨x, v, n, hm⟩ := prop_made p i hi
  obtain ⟨⟨m, hm1, hml⟩, _⟩ := right_parts ((prop_log hp).right i hi)
  have hn : n = m := by rw [← hm1, hm]; rfl
  subst hn
  rw [hm] at hj ⊢
  refine red_min hp hml (fun k hk => ?_) _ _ (fun k hk => ?_) (fun k h1 h2 => absurd h2 (by omega)) j hj
  · rw [List.length_take] at hk
    rw [cget_takeL _ (by omega)]
    exact (prop_log hp).good.fit k (by omega)
  · obtain ⟨q, h1, h2, _⟩ := why0_mem.1 hk
    exact ⟨q, h1, h2⟩
/-- The log up to a cut, without a number of its Why. -/
def fewerD (l : List Cut) (i j : Nat) : List Cut := l.take i ++ [{ cget l i with why := (cget l i).why.eraseIdx j }]
theorem fewer_length {l : List Cut} {i : Nat} (j : Nat) (h : i < l.length) : (fewerD l i j).length = i + 1 := by
  unfold fewerD; rw [List.length_append, List.length_take]; simp; omega
theorem fewer_wrong {p : Dp} (hp : probD p = true) {i j : Nat} (hi : i < (propD p).2.length) (hj : j < (cget (propD p).2 i).why.length) : wrongD p (fewerD (propD p).2 i j) = i := by
  have hl := fewer_length j hi
  have htl : ((propD p).2.take i).length = i := by rw [List.length_take]; omega
  refine wrongD_some (by omega) (fun m hm => ?_) ?_
  · have e1 : (fewerD (propD p).2 i j).take m = (propD p).2.take m := by
      unfold fewerD
      rw [List.take_append_of_le_length (by omega), List.take_take, Nat.min_eq_left (by omega)]
    have e2 : cget (fewerD (propD p).2 i j) m = cget (propD p).2 m := by
      unfold fewerD
      rw [cget_snoc, if_pos (by omega), cget_takeL _ hm]
    rw [e1, e2]
    exact (prop_log hp).right m (by omega)
  · have e1 : (fewerD (propD p).2 i j).take i = (propD p).2.take i := by
      unfold fewerD
      rw [List.take_append_of_le_length (by omega), List.take_take, Nat.min_eq_left (by omega)]
    have e2 : cget (fewerD (propD p).2 i j) i = { cget (propD p).2 i with why := (cget (propD p).2 i).why.eraseIdx j } := by
      unfold fewerD
      rw [cget_snoc, if_neg (by omega), if_pos (by omega)]
    rw [e1, e2]
    unfold rightD
    rw [why_min hp hi hj, Bool.and_false]
theorem twice_wrong {p : Dp} (hp : probD p = true) {i : Nat} (hi : i < (propD p).2.length) : wrongD p ((propD p).2 ++ [cget (propD p).2 i]) = (propD p).2.length := by
  refine wrongD_some (by rw [List.length_append]; simp) (fun m hm => ?_) ?_
  · rw [List.take_append_of_le_length (by omega), cget_snoc, if_pos hm]
    exact (prop_log hp).right m hm
  · rw [List.take_append_of_le_length (Nat.le_refl _), List.take_length, cget_snoc, if_neg (by omega), if_pos rfl]
    have h : (propD p).2.any (fun o => o.var == (cget (propD p).2 i).var && o.value == (cget (propD p).2 i).value) = true :=
      List.any_eq_true.2 ⟨_, cget_mem hi, by simp⟩
    unfold rightD
    rw [h]
    simp
/-! what is left -/
def leftStep (f : List Nat) (c : Cut) : List Nat := f.set c.var.toNat (sDiff (nget f c.var.toNat) (bitN c.value.toNat))
def leftD (p : Dp) (l : List Cut) : List Nat := l.foldl leftStep p.doms
theorem left_length : ∀ (l : List Cut) (f : List Nat), (l.foldl leftStep f).length = f.length
  | [], _ => rfl
  | c :: l, f => by rw [List.foldl_cons, left_length l]; exact List.length_set
theorem left_snoc (p : Dp) (l : List Cut) (c : Cut) : leftD p (l ++ [c]) = leftStep (leftD p l) c := by unfold leftD; rw [List.foldl_append]; rfl
theorem leftStep_bit {c : Cut} (hc : CFit c) (f : List Nat) (y u : Nat) : (nget (leftStep f c) y).testBit u = true ↔ (nget f y).testBit u = true ∧ ¬ Takes c y u := by
  obtain ⟨a, e, h1, h2, h3, h4⟩ := hc
  unfold leftStep Takes
  rw [h1, h3, Int.toNat_natCast, Int.toNat_natCast, nget_set]
  by_cases hy : a = y
  · subst hy
    by_cases hl : a < f.length
    · rw [if_pos ⟨rfl, hl⟩, diff_bit]
      constructor
      · intro h
        rw [Bool.and_eq_true] at h
        refine ⟨h.1, fun h' => ?_⟩
        have : e = u := by have := h'.2; omega
        rw [this] at h; simp at h
      · rintro ⟨h, h'⟩
        rw [Bool.and_eq_true]
        refine ⟨h, ?_⟩
        have : e ≠ u := fun e' => h' ⟨rfl, by rw [e']⟩
        simp [this]
    · have h0 : nget f a = 0 := by unfold nget; rw [List.getElem?_eq_none (by omega)]; rfl
      rw [if_neg fun h => hl h.2, h0]
      simp
  · rw [if_neg fun h => hy h.1]
    exact ⟨fun h => ⟨h, fun h' => hy (by have := h'.1; omega)⟩, fun h => h.1⟩
theorem left_bit : ∀ (l : List Cut) {f : List Nat}, (∀ c ∈ l, CFit c) → ∀ y u, ((nget (l.foldl leftStep f) y).testBit u = true ↔ (nget f y).testBit u = true ∧ ∀ c ∈ l, ¬ Takes c y u)
  | [], f, _, y, u => by simp
  | c :: l, f, hf, y, u => by
    rw [List.foldl_cons, left_bit l (fun j hj => hf j (by simp [hj])) y u, leftStep_bit (hf c (by simp))]
    simp only [List.mem_cons, forall_eq_or_imp]
    exact ⟨fun ⟨⟨a, b⟩, c⟩ => ⟨a, b, c⟩, fun ⟨a, b, c⟩ => ⟨⟨a, b⟩, c⟩⟩
theorem prop_fit {p : Dp} (hp : probD p = true) : ∀ c ∈ (propD p).2, CFit c := fun c hc => by
  obtain ⟨i, hi, rfl⟩ := mem_cget hc
  exact (prop_log hp).good.fit i hi
theorem leftStep_lt {c : Cut} {f : List Nat} (h : ∀ j, nget f j < 65536) (j : Nat) : nget (leftStep f c) j < 65536 := by
  unfold leftStep
  rw [nget_set]
  split
  · exact sDiff_lt (h _)
  · exact h j
theorem leftFold_lt : ∀ (l : List Cut) {f : List Nat}, (∀ j, nget f j < 65536) → ∀ j, nget (l.foldl leftStep f) j < 65536
  | [], _, h, j => h j
  | c :: l, _, h, j => leftFold_lt l (fun j => leftStep_lt h j) j
theorem left_lt {p : Dp} (hp : probD p = true) (l : List Cut) (j : Nat) : nget (leftD p l) j < 65536 := leftFold_lt l (probD_parts hp).2.2.2.1 j
/-- The cuts are just what was removed. -/
theorem left_all {p : Dp} (hp : probD p = true) : leftD p (propD p).2 = (propD p).1.take p.doms.length := by
  have hl := (prop_take hp).1
  refine nat_ext (by unfold leftD; rw [left_length, hl]) fun k hk => ?_
  unfold leftD at hk ⊢
  rw [left_length] at hk
  apply Nat.eq_of_testBit_eq
  intro u
  rw [Bool.eq_iff_iff, left_bit _ (prop_fit hp), nget_take hk]
  exact ((prop_log hp).left k u).symm
theorem right_new {p : Dp} {l : List Cut} {c : Cut} (h : rightD p l c = true) : ∀ o ∈ l, ¬ (o.var = c.var ∧ o.value = c.value) := fun o ho h2 => by
  unfold rightD at h
  simp only [Bool.and_eq_true] at h
  obtain ⟨⟨⟨_, h1⟩, _⟩, _⟩ := h
  rw [Bool.not_eq_true', Bool.eq_false_iff] at h1
  exact h1 (List.any_eq_true.2 ⟨o, ho, by simp [h2.1, h2.2]⟩)
/-- What is cut was there till then. -/
theorem left_has {p : Dp} (hp : probD p = true) {i : Nat} (hi : i < (propD p).2.length) : ∃ x v : Nat, (cget (propD p).2 i).var = x ∧ (cget (propD p).2 i).value = v ∧ x < p.doms.length ∧ v < 16 ∧ hasD (nget (leftD p ((propD p).2.take i)) x) (v : Int) = true := by
  have hr := (prop_log hp).right i hi
  obtain ⟨x, v, h1, h2, h3, h4⟩ := (prop_log hp).good.fit i hi
  obtain ⟨⟨j, hj, hjl⟩, hv, hh, _⟩ := right_parts hr
  have hn := right_new hr
  rw [h1, Int.toNat_natCast, h3, hasD_ltN h4] at hh
  have hx : x < p.doms.length := by
    rw [hj, Int.toNat_natCast, h1] at hv
    obtain ⟨a, ha, he⟩ := List.mem_iff_getElem.1 hv
    have := (ruleD_parts ((probD_parts hp).2.2.2.2 j hjl)).2.2.1 a ha
    rw [show iget (drget p.rules j).vars a = x by unfold iget; rw [List.getElem?_eq_getElem ha]; exact he] at this
    omega
  refine ⟨x, v, h1, h3, hx, h4, ?_⟩
  rw [hasD_ltN h4]
  unfold leftD
  rw [left_bit _ (fun c hc => prop_fit hp c (List.mem_of_mem_take hc))]
  refine ⟨hh, fun o ho ht => hn o ho ⟨?_, ?_⟩⟩
  · rw [ht.1, h1]
  · rw [ht.2, h3]
theorem left_take {p : Dp} {l : List Cut} {i : Nat} (hi : i < l.length) : leftD p (l.take (i + 1)) = leftStep (leftD p (l.take i)) (cget l i) := by
  rw [List.take_succ_eq_append_getElem hi, left_snoc]
  congr 1
  unfold cget
  rw [List.getElem?_eq_getElem hi]; rfl
end Go.Proofs.YtdmmegmkdhinjaaDoor
