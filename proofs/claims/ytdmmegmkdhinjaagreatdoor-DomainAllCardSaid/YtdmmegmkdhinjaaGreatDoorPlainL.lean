/- The log of a propagation is right, and its cuts are what was removed. In plain Lean. -/
import Derived.Test.YtdmmegmkdhinjaaGreatDoorPlainY
import Derived.Test.YtdmmegmkdhinjaaGreatDoorBH
namespace Go.Proofs.YtdmmegmkdhinjaaGreatDoor
open Go Go.RowKit

/-! what a Why takes -/
/-- A cut takes a value of a variable. -/
def Takes (c : Cut) (y u : Nat) : Prop := c.var = y ∧ c.value = u
theorem whyStep_bit {l : List Cut} {x : Int} {f : List Nat} {k : Int} (hf : CFit (cget l k.toNat)) (h8 : f.length = 8) (y u : Nat) :
    (nget (whyStep l x f k) y).testBit u = true ↔ (nget f y).testBit u = true ∧ ¬ ((cget l k.toNat).var ≠ x ∧ Takes (cget l k.toNat) y u) := by
  obtain ⟨a, e, h1, h2, h3, h4⟩ := hf
  unfold whyStep Takes
  by_cases hx : (cget l k.toNat).var = x
  · rw [if_pos hx]
    exact ⟨fun h => ⟨h, fun h' => h'.1 hx⟩, fun h => h.1⟩
  · rw [if_neg hx, h1, h3, Int.toNat_natCast, Int.toNat_natCast, nget_set]
    by_cases hy : a = y
    · subst hy
      rw [if_pos ⟨rfl, by omega⟩, diff_bit]
      rw [h1] at hx
      constructor
      · intro h
        rw [Bool.and_eq_true] at h
        refine ⟨h.1, fun h' => ?_⟩
        have : e = u := by have := h'.2.2; omega
        rw [this] at h; simp at h
      · rintro ⟨h, h'⟩
        rw [Bool.and_eq_true]
        refine ⟨h, ?_⟩
        have : e ≠ u := fun e' => h' ⟨hx, rfl, by rw [e']⟩
        simp [this]
    · rw [if_neg fun h => hy h.1]
      exact ⟨fun h => ⟨h, fun h' => hy (by have := h'.2.1; omega)⟩, fun h => h.1⟩
theorem whyStep_len2 {l : List Cut} {x : Int} {f : List Nat} {k : Int} : (whyStep l x f k).length = f.length := by
  unfold whyStep; split
  · rfl
  · exact List.length_set
theorem whyFold_bit {l : List Cut} {x : Int} : ∀ (ks : List Int) {f : List Nat}, (∀ k ∈ ks, CFit (cget l k.toNat)) → f.length = 8 → ∀ y u,
    ((nget (ks.foldl (whyStep l x) f) y).testBit u = true ↔ (nget f y).testBit u = true ∧ ∀ k ∈ ks, ¬ ((cget l k.toNat).var ≠ x ∧ Takes (cget l k.toNat) y u))
  | [], f, _, _, y, u => by simp
  | k :: ks, f, hf, h8, y, u => by
    rw [List.foldl_cons, whyFold_bit ks (fun j hj => hf j (by simp [hj])) (by rw [whyStep_len2]; exact h8) y u, whyStep_bit (hf k (by simp)) h8]
    simp only [List.mem_cons, forall_eq_or_imp]
    exact ⟨fun ⟨⟨a, b⟩, c⟩ => ⟨a, b, c⟩, fun ⟨a, b, c⟩ => ⟨⟨a, b⟩, c⟩⟩
/-! the reasons -/
theorem redD_sub (p : Dp) (l : List Cut) (c : Cut) : ∀ (i : Nat) (xs : List Int), (redD p l c i xs).Sublist xs
  | 0, _ => List.Sublist.refl _
  | i + 1, xs => by
    rw [redD_succ]
    refine (redD_sub p l c i _).trans ?_
    split
    · exact List.eraseIdx_sublist _ _
    · exact List.Sublist.refl _
theorem redD_expl (p : Dp) (l : List Cut) (c : Cut) : ∀ (i : Nat) (xs : List Int), explD p l { c with why := xs } = true → explD p l { c with why := redD p l c i xs } = true
  | 0, _, h => h
  | i + 1, xs, h => by
    rw [redD_succ]
    split
    · rename_i h2; exact redD_expl p l c i _ h2
    · exact redD_expl p l c i _ h
theorem why0_mem {p : Dp} {l : List Cut} {c : Cut} {k : Int} : k ∈ why0 p l c ↔ ∃ i : Nat, k = i ∧ i < l.length ∧ (cget l i).var ≠ c.var ∧ (cget l i).var ∈ (drget p.rules c.rule.toNat).vars := by
  unfold why0
  rw [List.mem_map]
  constructor
  · rintro ⟨i, hi, rfl⟩
    rw [List.mem_filter, List.mem_range] at hi
    refine ⟨i, rfl, hi.1, ?_⟩
    have := hi.2
    unfold ihas at this
    simpa using this
  · rintro ⟨i, rfl, h1, h2, h3⟩
    refine ⟨i, ?_, rfl⟩
    rw [List.mem_filter, List.mem_range]
    refine ⟨h1, ?_⟩
    unfold ihas
    simpa using ⟨h2, h3⟩
theorem why0_sorted (p : Dp) (l : List Cut) (c : Cut) : (why0 p l c).Pairwise (· < ·) := by
  unfold why0
  rw [List.pairwise_map]
  refine List.Pairwise.imp ?_ (List.Pairwise.filter _ List.pairwise_lt_range)
  intro a b h
  unfold natI
  omega
theorem sorted_all {ks : List Int} (h : ks.Pairwise (· < ·)) : ((List.range (ks.length - 1)).all fun i => decide (iget ks i < iget ks (i + 1))) = true := by
  rw [List.all_eq_true]
  intro i hi
  have hi := List.mem_range.1 hi
  apply decide_eq_true
  have := List.pairwise_iff_getElem.1 h i (i + 1) (by omega) (by omega) (by omega)
  unfold iget
  rw [List.getElem?_eq_getElem (show i < ks.length by omega), List.getElem?_eq_getElem (show i + 1 < ks.length by omega)]
  exact this
/-! the log -/
structure LogR (p : Dp) (st : Sd) : Prop where
  good : Good st
  left : ∀ y u : Nat, (nget st.1 y).testBit u = true ↔ (nget p.doms y).testBit u = true ∧ ∀ o ∈ st.2, ¬ Takes o y u
  right : ∀ k, k < st.2.length → rightD p (st.2.take k) (cget st.2 k) = true
theorem cget_mem {l : List Cut} {i : Nat} (h : i < l.length) : cget l i ∈ l := by unfold cget; rw [List.getElem?_eq_getElem h]; exact List.getElem_mem h
theorem mem_cget {l : List Cut} {o : Cut} (h : o ∈ l) : ∃ i, i < l.length ∧ cget l i = o := by
  obtain ⟨i, hi, rfl⟩ := List.mem_iff_getElem.1 h
  exact ⟨i, hi, by unfold cget; rw [List.getElem?_eq_getElem hi]; rfl⟩
theorem vars_distinct {r : Dr} {n : Int} (hr : ruleD r n = true) {i k : Nat} (hi : i < r.vars.length) (hk : k < r.vars.length) (h : iget r.vars i = iget r.vars k) : i = k := by
  have hd := (ruleD_parts hr).2.2.2.2.1
  have key : ∀ a b : Nat, a < b → b < r.vars.length → iget r.vars a ≠ iget r.vars b := fun a b hab hb e => by
    unfold distinctD at hd
    have := List.all_eq_true.1 hd b (List.mem_range.2 hb)
    unfold ihas at this
    have hm : iget r.vars b ∈ r.vars.take b := by
      rw [← e]
      refine List.mem_iff_getElem.2 ⟨a, by rw [List.length_take]; omega, ?_⟩
      rw [List.getElem_take]
      unfold iget
      rw [List.getElem?_eq_getElem (by omega)]; rfl
    rw [Bool.not_eq_true', ← Bool.not_eq_true, List.contains_iff_mem] at this
    exact this hm
  by_cases h1 : i < k
  · exact absurd h (key i k h1 hk)
  · by_cases h2 : k < i
    · exact absurd h.symm (key k i h2 hi)
    · omega
theorem idx_get {l : List Int} {z : Int} (h : z ∈ l) : iget l (l.idxOf z) = z := by
  have hl := List.idxOf_lt_length_iff.2 h
  unfold iget
  rw [List.getElem?_eq_getElem hl, List.getElem_idxOf hl]; rfl
theorem idx_at {r : Dr} {n : Int} (hr : ruleD r n = true) {i : Nat} (hi : i < r.vars.length) : r.vars.idxOf (iget r.vars i) = i := by
  have hm : iget r.vars i ∈ r.vars := by unfold iget; rw [List.getElem?_eq_getElem hi]; exact List.getElem_mem hi
  have hl := List.idxOf_lt_length_iff.2 hm
  exact vars_distinct hr hl hi (idx_get hm)
/-- A cut that the rule asks for is explained by all that was cut before. -/
theorem expl_all {p : Dp} (hp : probD p = true) {st : Sd} (h : LogR p st) {n i x v : Nat} (hn : n < p.rules.length) (hi : i < (drget p.rules n).vars.length) (hx : iget (drget p.rules n).vars i = x) (hv : v ∈ elems (nget st.1 x))
    (hs : suppD st.1 (drget p.rules n) i v = false) : explD p st.2 ⟨x, v, n, why0 p st.2 ⟨x, v, n, []⟩⟩ = true := by
  have hr := (probD_parts hp).2.2.2.2 n hn
  have hvar := (ruleD_parts hr).2.2.1
  have hv16 := elems16 (h.good.f.lt x) hv
  have hposs : possD (drget p.rules n) ((ofD st.1 (drget p.rules n).vars).set i (bitN v)) = false := by
    unfold suppD at hs
    rw [ofD_get _ _ hi, hx, Int.toNat_natCast, Int.toNat_natCast] at hs
    have : hasD (nget st.1 x) (v : Int) = true := by
      unfold hasD inB
      rw [Int.toNat_natCast, (mem_elems.1 hv).2]
      simp; omega
    rw [this, Bool.true_and] at hs
    exact hs
  unfold explD
  show (!suppD (whyF p st.2 ⟨x, v, n, why0 p st.2 ⟨x, v, n, []⟩⟩) (drget p.rules (n : Int).toNat) ((drget p.rules (n : Int).toNat).vars.idxOf (x : Int)) (v : Int)) = true
  rw [Int.toNat_natCast, ← hx, idx_at hr hi, hx]
  unfold suppD
  rw [Int.toNat_natCast]
  have hset : (ofD (whyF p st.2 ⟨x, v, n, why0 p st.2 ⟨x, v, n, []⟩⟩) (drget p.rules n).vars).set i (bitN v) = (ofD st.1 (drget p.rules n).vars).set i (bitN v) := by
    refine nat_ext (by rw [List.length_set, List.length_set, ofD_length, ofD_length]) fun k hk => ?_
    rw [List.length_set, ofD_length] at hk
    rw [nget_set, nget_set, ofD_length, ofD_length]
    split
    · rfl
    · rename_i hne
      rw [ofD_get _ _ hk, ofD_get _ _ hk]
      obtain ⟨y, hy⟩ : ∃ y : Nat, iget (drget p.rules n).vars k = y := ⟨_, (Int.toNat_of_nonneg (hvar k hk).1).symm⟩
      have hyx : y ≠ x := fun e => hne ⟨vars_distinct hr hi hk (by rw [hx, hy, e]), hi⟩
      have hmem : (y : Int) ∈ (drget p.rules n).vars := by
        rw [← hy]; unfold iget; rw [List.getElem?_eq_getElem hk]; exact List.getElem_mem hk
      rw [hy, Int.toNat_natCast]
      apply Nat.eq_of_testBit_eq
      intro u
      rw [Bool.eq_iff_iff]
      unfold whyF
      rw [whyFold_bit _ (fun k hk => by
        obtain ⟨j, rfl, hj, _⟩ := why0_mem.1 hk
        rw [Int.toNat_natCast]; exact h.good.fit j hj) (padD_length (probD_parts hp).2.1) y u, h.left, padD_get]
      constructor
      · rintro ⟨a, b⟩
        refine ⟨a, fun o ho ht => ?_⟩
        obtain ⟨j, hj, rfl⟩ := mem_cget ho
        refine b j (why0_mem.2 ⟨j, rfl, hj, ?_, ?_⟩) ⟨?_, ?_⟩
        · rw [ht.1]; show (y : Int) ≠ x; omega
        · rw [ht.1]
          show (y : Int) ∈ (drget p.rules (n : Int).toNat).vars
          rw [Int.toNat_natCast]; exact hmem
        · rw [Int.toNat_natCast, ht.1]; show (y : Int) ≠ x; omega
        · rw [Int.toNat_natCast]; exact ht
      · rintro ⟨a, b⟩
        refine ⟨a, fun k hk ht => ?_⟩
        obtain ⟨j, rfl, hj, _⟩ := why0_mem.1 hk
        rw [Int.toNat_natCast] at ht
        exact b _ (cget_mem hj) ht.2
  rw [hset, hposs, Bool.and_false]; rfl
theorem right_reason {p : Dp} (hp : probD p = true) {st : Sd} (h : LogR p st) {n i x v : Nat} (hn : n < p.rules.length) (hi : i < (drget p.rules n).vars.length) (hx : iget (drget p.rules n).vars i = x) (hv : v ∈ elems (nget st.1 x))
    (hs : suppD st.1 (drget p.rules n) i v = false) : rightD p st.2 (reasonD p st.2 ⟨x, v, n, []⟩) = true := by
  have hex := redD_expl p st.2 ⟨x, v, n, []⟩ (why0 p st.2 ⟨x, v, n, []⟩).length _ (expl_all hp h hn hi hx hv hs)
  have hsub := redD_sub p st.2 ⟨x, v, n, []⟩ (why0 p st.2 ⟨x, v, n, []⟩).length (why0 p st.2 ⟨x, v, n, []⟩)
  have hv16 := elems16 (h.good.f.lt x) hv
  have hl := (h.left x v).1 (mem_elems.1 hv).2
  unfold rightD reasonD
  simp only [Bool.and_eq_true]
  refine ⟨⟨⟨⟨⟨⟨?_, ?_⟩, ?_⟩, ?_⟩, ?_⟩, ?_⟩, hex⟩
  · unfold inB; simp; omega
  · rw [Int.toNat_natCast]
    unfold ihas
    rw [List.contains_iff_mem, ← hx]
    unfold iget; rw [List.getElem?_eq_getElem hi]; exact List.getElem_mem hi
  · rw [Int.toNat_natCast]
    unfold hasD inB
    rw [Int.toNat_natCast, hl.1]; simp; omega
  · unfold allB
    rw [List.all_eq_true]
    intro k hk
    obtain ⟨j, rfl, hj, _⟩ := why0_mem.1 (hsub.subset hk)
    unfold inB; simp; omega
  · rw [Bool.not_eq_true', Bool.eq_false_iff]
    intro hc
    obtain ⟨o, ho, h2⟩ := List.any_eq_true.1 hc
    simp only [Bool.and_eq_true, beq_iff_eq] at h2
    exact hl.2 o ho ⟨h2.1, h2.2⟩
  · exact sorted_all ((why0_sorted _ _ _).sublist hsub)
theorem LogR.cut {p : Dp} (hp : probD p = true) {st : Sd} (h : LogR p st) {n i x v : Nat} (hn : n < p.rules.length) (hi : i < (drget p.rules n).vars.length) (hx : iget (drget p.rules n).vars i = x) (hx8 : x < 8) (hv : v ∈ elems (nget st.1 x)) : LogR p (cutV p true n i st v) := by
  cases hs : suppD st.1 (drget p.rules n) i v with
  | true => rw [cut_keep hs]; exact h
  | false =>
    have hg := h.good.cut (p := p) (rs := true) (n := n) (i := i) hx hx8 hv
    rw [(cut_drop h.good hx hx8 hv hs).1] at hg ⊢
    have hrr := right_reason hp h hn hi hx hv hs
    rw [if_pos rfl] at hg ⊢
    obtain ⟨c, hc⟩ : ∃ c, c = reasonD p st.2 ⟨x, v, n, []⟩ := ⟨_, rfl⟩
    have hc1 : c.var = x := by rw [hc]; rfl
    have hc2 : c.value = v := by rw [hc]; rfl
    rw [← hc] at hg hrr ⊢
    clear hc
    refine ⟨hg, fun y u => ?_, fun k hk => ?_⟩
    · show (nget (st.1.set x (sDiff (nget st.1 x) (bitN v))) y).testBit u = true ↔ _
      rw [nget_set]
      by_cases hxy : x = y
      · subst hxy
        rw [if_pos ⟨rfl, by rw [h.good.f.len]; exact hx8⟩, diff_bit, Bool.and_eq_true, h.left]
        constructor
        · rintro ⟨⟨a, b⟩, c0⟩
          refine ⟨a, fun o ho => ?_⟩
          rcases List.mem_append.1 ho with ho | ho
          · exact b o ho
          · rw [List.mem_singleton.1 ho]
            rintro ⟨_, h2⟩
            rw [hc2] at h2
            simp at c0; omega
        · rintro ⟨a, b⟩
          refine ⟨⟨a, fun o ho => b o (List.mem_append_left _ ho)⟩, ?_⟩
          have := b _ (List.mem_append_right _ (List.mem_singleton.2 rfl))
          by_cases hvu : v = u
          · subst hvu; exact absurd ⟨hc1, hc2⟩ this
          · simp [hvu]
      · rw [if_neg fun h => hxy h.1, h.left]
        constructor
        · rintro ⟨a, b⟩
          refine ⟨a, fun o ho => ?_⟩
          rcases List.mem_append.1 ho with ho | ho
          · exact b o ho
          · rw [List.mem_singleton.1 ho]
            rintro ⟨h2, _⟩
            rw [hc1] at h2
            omega
        · rintro ⟨a, b⟩
          exact ⟨a, fun o ho => b o (List.mem_append_left _ ho)⟩
    · show rightD p ((st.2 ++ [c]).take k) (cget (st.2 ++ [c]) k) = true
      rw [cget_snoc]
      by_cases h1 : k < st.2.length
      · rw [if_pos h1, List.take_append_of_le_length (by omega)]
        exact h.right k h1
      · have : k = st.2.length := by simp at hk; omega
        subst this
        rw [if_neg (by omega), if_pos rfl, List.take_append_of_le_length (Nat.le_refl _), List.take_length]
        exact hrr
theorem LogR.cuts {p : Dp} (hp : probD p = true) {n i x : Nat} (hn : n < p.rules.length) (hi : i < (drget p.rules n).vars.length) (hx : iget (drget p.rules n).vars i = x) (hx8 : x < 8) : ∀ (vs : List Nat) {st : Sd}, LogR p st → vs.Nodup → (∀ v ∈ vs, v ∈ elems (nget st.1 x)) →
    LogR p (vs.foldl (cutV p true n i) st)
  | [], _, h, _, _ => h
  | v :: vs, st, h, hn', hm => by
    have hnd := List.nodup_cons.1 hn'
    have hl : x < st.1.length := by rw [h.good.f.len]; exact hx8
    refine LogR.cuts hp hn hi hx hx8 vs (h.cut hp hn hi hx hx8 (hm v (by simp))) hnd.2 fun u hu => ?_
    have := mem_elems.1 (hm u (by simp [hu]))
    refine mem_elems.2 ⟨this.1, ?_⟩
    rw [cutV_bit hx hl fun e => hnd.1 (by rw [← e]; exact hu)]
    exact this.2
theorem LogR.sweep {p : Dp} (hp : probD p = true) {n i : Nat} (hn : n < p.rules.length) (hi : i < (drget p.rules n).vars.length) {st : Sd} (h : LogR p st) : LogR p (sweepD p true n i st) := by
  have hvar := (ruleD_parts ((probD_parts hp).2.2.2.2 n hn)).2.2.1 i hi
  have hn8 := (probD_parts hp).2.1
  obtain ⟨x, hx⟩ : ∃ x : Nat, iget (drget p.rules n).vars i = x := ⟨_, (Int.toNat_of_nonneg hvar.1).symm⟩
  unfold sweepD
  rw [hx, Int.toNat_natCast]
  exact LogR.cuts hp hn hi hx (by omega) _ h (elems_nodup _) (fun _ hu => hu)
theorem LogR.places {p : Dp} (hp : probD p = true) {n : Nat} (hn : n < p.rules.length) : ∀ (is : List Nat) {st : Sd}, (∀ i ∈ is, i < (drget p.rules n).vars.length) → LogR p st → LogR p (placesD p true n is st).1
  | [], _, _, h => h
  | i :: is, st, hi, h => by
    have h1 := LogR.sweep hp hn (hi i (by simp)) h
    rw [placesD_cons]
    split
    · exact h1
    · exact LogR.places hp hn is (fun j hj => hi j (by simp [hj])) h1
theorem LogR.rules {p : Dp} (hp : probD p = true) : ∀ (ns : List Nat) {st : Sd}, (∀ n ∈ ns, n < p.rules.length) → LogR p st → LogR p (rulesD p true ns st).1
  | [], _, _, h => h
  | n :: ns, st, hn, h => by
    have h1 := LogR.places hp (hn n (by simp)) (List.range (drget p.rules n).vars.length) (fun i hi => List.mem_range.1 hi) h
    rw [rulesD_cons]
    split
    · exact LogR.rules hp ns (fun j hj => hn j (by simp [hj])) h1
    · exact h1
theorem LogR.rounds {p : Dp} (hp : probD p = true) : ∀ (k : Nat) {st : Sd}, LogR p st → LogR p (roundsD p true k st)
  | 0, _, h => h
  | k + 1, st, h => by
    have h1 := LogR.rules hp (List.range p.rules.length) (fun n hn => List.mem_range.1 hn) h
    rw [roundsD_succ]
    split
    · split
      · exact h1
      · exact LogR.rounds hp k h1
    · exact h1
theorem prop_log {p : Dp} (hp : probD p = true) : LogR p (propD p) := by
  have h0 : Good (padD p.doms, []) := ⟨padD_ok hp, fun i hi => by simp at hi, fun i hi => by simp at hi, by
    have h1 := total_le (padD p.doms) (padD_ok hp).lt
    rw [(padD_ok hp).len] at h1
    show 0 + totalD (padD p.doms) ≤ 128
    omega⟩
  have h1 : LogR p (padD p.doms, []) := ⟨h0, fun y u => by rw [padD_get]; simp, fun k hk => by simp at hk⟩
  unfold propD runD
  split
  · exact h1
  · exact LogR.rounds hp _ h1
/-- The log of a propagation is right. -/
theorem prop_right {p : Dp} (hp : probD p = true) : wrongD p (propD p).2 = -1 := wrongD_none (prop_log hp).right
end Go.Proofs.YtdmmegmkdhinjaaGreatDoor
