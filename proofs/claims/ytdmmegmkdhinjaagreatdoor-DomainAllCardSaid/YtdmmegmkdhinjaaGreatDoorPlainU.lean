/- What a propagation leaves: it is the greatest part in which each value is supported. In plain Lean. No program in sight. -/
import Derived.Test.YtdmmegmkdhinjaaGreatDoorPlainT
import Derived.Test.YtdmmegmkdhinjaaGreatDoorPlainS
import Derived.Test.YtdmmegmkdhinjaaGreatDoorPlainW
namespace Go.Proofs.YtdmmegmkdhinjaaGreatDoor
open Go Go.RowKit

def SubF (f g : List Nat) : Prop := ∀ i, Sub (nget f i) (nget g i)
theorem SubF.refl (f : List Nat) : SubF f f := fun _ => Sub.refl _
theorem SubF.trans {a b c : List Nat} (h : SubF a b) (h' : SubF b c) : SubF a c := fun i => (h i).trans (h' i)
theorem hasD_sub {a b : Nat} (h : Sub a b) {v : Int} (hv : hasD a v = true) : hasD b v = true := by
  unfold hasD at hv ⊢
  rw [Bool.and_eq_true] at hv ⊢
  exact ⟨hv.1, h _ hv.2⟩
theorem ofD_all (f : List Nat) (vars : List Int) (i : Nat) : nget (ofD f vars) i = if i < vars.length then nget f (iget vars i).toNat else 0 := by
  split
  · rename_i h; exact ofD_get f vars h
  · rename_i h; exact nget_len (by rw [ofD_length]; omega)
theorem suppD_mono {r : Dr} {n : Int} (hr : ruleD r n = true) {f g : List Nat} (hf : ∀ i, nget f i < 65536) (hg : ∀ i, nget g i < 65536) (h : SubF f g) {i : Nat} {v : Int} (hs : suppD f r i v = true) : suppD g r i v = true := by
  unfold suppD at hs ⊢
  rw [Bool.and_eq_true] at hs ⊢
  have hsub : ∀ k, Sub (nget (ofD f r.vars) k) (nget (ofD g r.vars) k) := fun k => by
    rw [ofD_all, ofD_all]
    split
    · exact h _
    · exact Sub.refl _
  obtain ⟨m, rfl, hm⟩ := hasD_nat hs.1
  rw [Int.toNat_natCast] at hs ⊢
  refine ⟨hasD_sub (hsub i) hs.1, poss_mono hr (by rw [List.length_set, ofD_length]) (by rw [List.length_set, List.length_set, ofD_length, ofD_length]) (set_lt (fun j => ofD_lt2 hf r.vars j) (bit16 hm)) (set_lt (fun j => ofD_lt2 hg r.vars j) (bit16 hm)) (fun k _ => ?_) hs.2⟩
  rw [nget_set, nget_set, ofD_length, ofD_length]
  split
  · exact Sub.refl _
  · exact hsub k
/-- Each value of it is supported by each rule. -/
def Closed (rules : List Dr) (g : List Nat) : Prop := ∀ r ∈ rules, ∀ i, i < r.vars.length → ∀ v, (nget g (iget r.vars i).toNat).testBit v = true → suppD g r i v = true
section
variable {p : Dp} {rs : Bool}
theorem drget_mem {l : List Dr} {n : Nat} (h : n < l.length) : drget l n ∈ l := by unfold drget; rw [List.getElem?_eq_getElem h]; exact List.getElem_mem h
theorem cut_keeps (hpo : probD p = true) {g : List Nat} (hg : ∀ i, nget g i < 65536) (hc : Closed p.rules g) {n i : Nat} (hn : n < p.rules.length) (hi : i < (drget p.rules n).vars.length) {st : Sd} (hf : ∀ j, nget st.1 j < 65536) (h : SubF g st.1) (v : Nat) : SubF g (cutV p rs n i st v).1 := by
  unfold cutV
  dsimp only
  split
  · exact h
  · rename_i hs
    intro j
    show Sub (nget g j) (nget (st.1.set _ _) j)
    rw [nget_set]
    split
    · rename_i hj
      intro b hb
      rw [diff_bit]
      have h1 := h j b hb
      rw [← hj.1] at h1 hb
      rw [h1]
      by_cases hvb : v = b
      · subst hvb
        exact absurd (suppD_mono ((probD_parts hpo).2.2.2.2 n hn) hg hf h (hc _ (drget_mem hn) i hi v hb)) hs
      · simp [hvb]
    · exact h j
theorem cut_lt {n i : Nat} {st : Sd} (hf : ∀ j, nget st.1 j < 65536) (v : Nat) : ∀ j, nget (cutV p rs n i st v).1 j < 65536 := by
  unfold cutV
  dsimp only
  split
  · exact hf
  · exact set_lt hf (sDiff_lt (hf _))
/-- What stays below: all through the propagation. -/
def Over (g : List Nat) (st : Sd) : Prop := (∀ j, nget st.1 j < 65536) ∧ SubF g st.1
theorem over_sweep (hpo : probD p = true) {g : List Nat} (hg : ∀ i, nget g i < 65536) (hc : Closed p.rules g) {n i : Nat} (hn : n < p.rules.length) (hi : i < (drget p.rules n).vars.length) {st : Sd} (h : Over g st) : Over g (sweepD p rs n i st) := by
  unfold sweepD
  exact foldl_inv (P := Over g) _ _ h fun v _ s hs => ⟨cut_lt hs.1 v, cut_keeps hpo hg hc hn hi hs.1 hs.2 v⟩
theorem over_places (hpo : probD p = true) {g : List Nat} (hg : ∀ i, nget g i < 65536) (hc : Closed p.rules g) {n : Nat} (hn : n < p.rules.length) : ∀ (is : List Nat) {st : Sd}, (∀ i ∈ is, i < (drget p.rules n).vars.length) → Over g st → Over g (placesD p rs n is st).1
  | [], _, _, h => h
  | i :: is, st, hi, h => by
    have h1 := over_sweep (rs := rs) hpo hg hc hn (hi i (by simp)) h
    rw [placesD_cons]
    split
    · exact h1
    · exact over_places hpo hg hc hn is (fun j hj => hi j (by simp [hj])) h1
theorem over_rules (hpo : probD p = true) {g : List Nat} (hg : ∀ i, nget g i < 65536) (hc : Closed p.rules g) : ∀ (ns : List Nat) {st : Sd}, (∀ n ∈ ns, n < p.rules.length) → Over g st → Over g (rulesD p rs ns st).1
  | [], _, _, h => h
  | n :: ns, st, hn, h => by
    have h1 := over_places (rs := rs) hpo hg hc (hn n (by simp)) (List.range (drget p.rules n).vars.length) (fun i hi => List.mem_range.1 hi) h
    rw [rulesD_cons]
    split
    · exact over_rules hpo hg hc ns (fun j hj => hn j (by simp [hj])) h1
    · exact h1
theorem over_rounds (hpo : probD p = true) {g : List Nat} (hg : ∀ i, nget g i < 65536) (hc : Closed p.rules g) : ∀ (k : Nat) {st : Sd}, Over g st → Over g (roundsD p rs k st)
  | 0, _, h => h
  | k + 1, st, h => by
    have h1 := over_rules (rs := rs) hpo hg hc (List.range p.rules.length) (fun n hn => List.mem_range.1 hn) h
    rw [roundsD_succ]
    split
    · split
      · exact h1
      · exact over_rounds hpo hg hc k h1
    · exact h1
/-- Whatever supports itself is left. -/
theorem run_over (hpo : probD p = true) {g f : List Nat} (hg : ∀ i, nget g i < 65536) (hc : Closed p.rules g) (hf : ∀ j, nget f j < 65536) (h : SubF g f) : SubF g (runD p rs f).1 := by
  unfold runD
  split
  · exact h
  · exact (over_rounds hpo hg hc _ (st := (f, [])) ⟨hf, h⟩).2

/-! where nothing is taken any more, each value is supported -/
theorem cuts_same {n i x : Nat} (hx : iget (drget p.rules n).vars i = x) (hx8 : x < 8) : ∀ (vs : List Nat) {st : Sd}, Good st → vs.Nodup → (∀ v ∈ vs, v ∈ elems (nget st.1 x)) → ¬ totalD (vs.foldl (cutV p rs n i) st).1 < totalD st.1 →
    vs.foldl (cutV p rs n i) st = st ∧ ∀ v ∈ vs, suppD st.1 (drget p.rules n) i v = true
  | [], st, _, _, _, _ => ⟨rfl, fun v hv => absurd hv (List.not_mem_nil)⟩
  | v :: vs, st, h, hn, hm, ht => by
    have hnd := List.nodup_cons.1 hn
    have hv := hm v (by simp)
    rw [List.foldl_cons] at ht ⊢
    cases hs : suppD st.1 (drget p.rules n) i v
    · exfalso
      obtain ⟨e1, e2⟩ := cut_drop (rs := rs) h hx hx8 hv hs
      have hc := h.cut (p := p) (rs := rs) (n := n) (i := i) hx hx8 hv
      have hl : x < st.1.length := by rw [h.f.len]; exact hx8
      have hd := Dec.cuts (rs := rs) hx hx8 vs hc hnd.2 (fun u hu => by
        have := mem_elems.1 (hm u (by simp [hu]))
        refine mem_elems.2 ⟨this.1, ?_⟩
        rw [cutV_bit hx hl (fun e => hnd.1 (by rw [← e]; exact hu))]
        exact this.2)
      have e3 : totalD (cutV p rs n i st v).1 + 1 = totalD st.1 := by rw [e1]; exact e2
      rcases hd with hd | hd
      · rw [hd] at ht; omega
      · omega
    · rw [cut_keep hs] at ht ⊢
      obtain ⟨h1, h2⟩ := cuts_same hx hx8 vs h hnd.2 (fun u hu => hm u (by simp [hu])) ht
      refine ⟨h1, fun u hu => ?_⟩
      rcases List.mem_cons.1 hu with rfl | hu
      · exact hs
      · exact h2 u hu
theorem vars_nat {n i : Nat} (hv : VarsIn (drget p.rules n)) (hi : i < (drget p.rules n).vars.length) : ∃ x : Nat, iget (drget p.rules n).vars i = x ∧ x < 8 := by
  obtain ⟨h1, h2⟩ := hv i hi
  exact ⟨(iget (drget p.rules n).vars i).toNat, by omega, by omega⟩
def Supp (p : Dp) (f : List Nat) (n i : Nat) : Prop := ∀ v, (nget f (iget (drget p.rules n).vars i).toNat).testBit v = true → suppD f (drget p.rules n) i v = true
theorem sweep_same {n i : Nat} {st : Sd} (hv : VarsIn (drget p.rules n)) (hi : i < (drget p.rules n).vars.length) (h : Good st) (ht : ¬ totalD (sweepD p rs n i st).1 < totalD st.1) : sweepD p rs n i st = st ∧ Supp p st.1 n i := by
  obtain ⟨x, hx, hx8⟩ := vars_nat hv hi
  unfold sweepD at ht ⊢
  rw [hx, Int.toNat_natCast] at ht ⊢
  obtain ⟨h1, h2⟩ := cuts_same hx hx8 _ h (elems_nodup _) (fun _ hu => hu) ht
  refine ⟨h1, fun v hb => h2 v ?_⟩
  rw [hx, Int.toNat_natCast] at hb
  exact mem_elems.2 ⟨by have := bit_lt16 (h.f.lt x) hb; omega, hb⟩
theorem places_same {n : Nat} (hv : VarsIn (drget p.rules n)) : ∀ (is : List Nat) {st : Sd}, (∀ i ∈ is, i < (drget p.rules n).vars.length) → Good st → (placesD p rs n is st).2 = true → ¬ totalD (placesD p rs n is st).1.1 < totalD st.1 → (placesD p rs n is st).1 = st ∧ ∀ i ∈ is, Supp p st.1 n i
  | [], st, _, _, _, _ => ⟨rfl, fun i hi => absurd hi (List.not_mem_nil)⟩
  | i :: is, st, hi, h, h2, ht => by
    have hii := hi i (by simp)
    obtain ⟨x, hx, hx8⟩ := vars_nat hv hii
    have hg := h.sweep (p := p) (rs := rs) (n := n) (i := i) hx hx8
    have hd := Dec.sweep (p := p) (rs := rs) (n := n) (i := i) h hx hx8
    rw [placesD_cons] at h2 ht ⊢
    split at h2
    · cases h2
    · rename_i hz
      rw [if_neg hz] at ht ⊢
      obtain ⟨_, hd2⟩ := places_good (rs := rs) hv is (fun j hj => hi j (by simp [hj])) hg
      have hd3 := hd.trans hd2
      have hsw : ¬ totalD (sweepD p rs n i st).1 < totalD st.1 := fun hlt => by
        rcases hd2 with hd2 | hd2
        · rw [hd2] at ht; exact ht hlt
        · omega
      obtain ⟨e1, e2⟩ := sweep_same hv hii h hsw
      rw [e1] at h2 ht ⊢
      obtain ⟨e3, e4⟩ := places_same hv is (fun j hj => hi j (by simp [hj])) h h2 ht
      refine ⟨e3, fun j hj => ?_⟩
      rcases List.mem_cons.1 hj with rfl | hj
      · exact e2
      · exact e4 j hj
theorem rules_same (hv : ∀ n, n < p.rules.length → VarsIn (drget p.rules n)) : ∀ (ns : List Nat) {st : Sd}, (∀ n ∈ ns, n < p.rules.length) → Good st → (rulesD p rs ns st).2 = true → ¬ totalD (rulesD p rs ns st).1.1 < totalD st.1 → (rulesD p rs ns st).1 = st ∧ ∀ n ∈ ns, ∀ i, i < (drget p.rules n).vars.length → Supp p st.1 n i
  | [], st, _, _, _, _ => ⟨rfl, fun i hi => absurd hi (List.not_mem_nil)⟩
  | n :: ns, st, hn, h, h2, ht => by
    have hnn := hn n (by simp)
    obtain ⟨hg, hd⟩ := places_good (rs := rs) (hv n hnn) (List.range (drget p.rules n).vars.length) (fun i hi => List.mem_range.1 hi) h
    rw [rulesD_cons] at h2 ht ⊢
    split at h2
    · rename_i hz
      rw [if_pos hz] at ht ⊢
      obtain ⟨_, hd2⟩ := rules_good (rs := rs) hv ns (fun j hj => hn j (by simp [hj])) hg
      have hsw : ¬ totalD (placesD p rs n (List.range (drget p.rules n).vars.length) st).1.1 < totalD st.1 := fun hlt => by
        rcases hd2 with hd2 | hd2
        · rw [hd2] at ht; exact ht hlt
        · omega
      obtain ⟨e1, e2⟩ := places_same (hv n hnn) _ (fun i hi => List.mem_range.1 hi) h hz hsw
      rw [e1] at h2 ht ⊢
      obtain ⟨e3, e4⟩ := rules_same hv ns (fun j hj => hn j (by simp [hj])) h h2 ht
      refine ⟨e3, fun j hj i hi => ?_⟩
      rcases List.mem_cons.1 hj with rfl | hj
      · exact e2 i (List.mem_range.2 hi)
      · exact e4 j hj i hi
    · rename_i hz
      rw [h2] at hz
      exact absurd rfl hz
/-- Some domain that a rule speaks of is empty. -/
def Void (p : Dp) (f : List Nat) : Prop := ∃ y, y < p.doms.length ∧ nget f y = 0
theorem places_void (hpo : probD p = true) {n : Nat} (hn : n < p.rules.length) : ∀ (is : List Nat) {st : Sd}, (∀ i ∈ is, i < (drget p.rules n).vars.length) → (placesD p rs n is st).2 = false → Void p (placesD p rs n is st).1.1
  | [], _, _, h => by cases h
  | i :: is, st, hi, h => by
    rw [placesD_cons] at h ⊢
    split at h
    · rename_i hz
      rw [if_pos hz]
      have := (ruleD_parts ((probD_parts hpo).2.2.2.2 n hn)).2.2.1 i (hi i (by simp))
      exact ⟨_, by omega, hz⟩
    · rename_i hz
      rw [if_neg hz]
      exact places_void hpo hn is (fun j hj => hi j (by simp [hj])) h
theorem rules_void (hpo : probD p = true) : ∀ (ns : List Nat) {st : Sd}, (∀ n ∈ ns, n < p.rules.length) → (rulesD p rs ns st).2 = false → Void p (rulesD p rs ns st).1.1
  | [], _, _, h => by cases h
  | n :: ns, st, hn, h => by
    rw [rulesD_cons] at h ⊢
    split at h
    · rename_i hz
      rw [if_pos hz]
      exact rules_void hpo ns (fun j hj => hn j (by simp [hj])) h
    · rename_i hz
      rw [if_neg hz]
      exact places_void hpo (hn n (by simp)) _ (fun i hi => List.mem_range.1 hi) h
theorem closed_of {f : List Nat} (hs : ∀ n, n < p.rules.length → ∀ i, i < (drget p.rules n).vars.length → Supp p f n i) : Closed p.rules f := fun r hr i hi v hv => by
  obtain ⟨n, hn, rfl⟩ := List.mem_iff_getElem.1 hr
  have e : drget p.rules n = p.rules[n] := by simp [drget, hn]
  rw [← e] at hi hv ⊢
  exact hs n hn i hi v hv
theorem rounds_fix (hpo : probD p = true) : ∀ (k : Nat) {st : Sd}, Good st → totalD st.1 < k → Void p (roundsD p rs k st).1 ∨ Closed p.rules (roundsD p rs k st).1
  | 0, _, _, h => absurd h (Nat.not_lt_zero _)
  | k + 1, st, h, ht => by
    obtain ⟨hg, hd⟩ := rules_good (rs := rs) (probD_varsIn hpo) (List.range p.rules.length) (fun n hn => List.mem_range.1 hn) h
    rw [roundsD_succ]
    split
    · rename_i h2
      split
      · rename_i he
        right
        obtain ⟨e1, e2⟩ := rules_same (rs := rs) (probD_varsIn hpo) (List.range p.rules.length) (fun n hn => List.mem_range.1 hn) h h2 (by rw [he]; omega)
        rw [e1]
        exact closed_of fun n hn => e2 n (List.mem_range.2 hn)
      · rename_i he
        refine rounds_fix hpo k hg ?_
        rcases hd with hd | hd
        · exact absurd hd he
        · omega
    · rename_i h2
      exact .inl (rules_void hpo _ (fun n hn => List.mem_range.1 hn) (by simpa using h2))
theorem run_fix (hpo : probD p = true) {f : List Nat} (hf : Fok f) : Void p (runD p rs f).1 ∨ Closed p.rules (runD p rs f).1 := by
  unfold runD
  split
  · rename_i hz
    left
    rw [List.contains_iff_mem] at hz
    obtain ⟨y, hy, e⟩ := List.mem_iff_getElem.1 hz
    have hy2 := hy
    rw [List.length_take] at hy2
    have h3 : y < f.length := Nat.lt_of_lt_of_le hy2 (Nat.min_le_right _ _)
    exact ⟨y, Nat.lt_of_lt_of_le hy2 (Nat.min_le_left _ _), by simp at e; show nget f y = 0; unfold nget; rw [List.getElem?_eq_getElem h3]; exact e⟩
  · exact rounds_fix hpo _ (Good.start hf) (Nat.lt_succ_self _)

/-! a propagation only takes away -/
theorem cut_sub {n i : Nat} (st : Sd) (v : Nat) : SubF (cutV p rs n i st v).1 st.1 := by
  unfold cutV
  dsimp only
  split
  · exact SubF.refl _
  · intro j
    show Sub (nget (st.1.set _ _) j) _
    rw [nget_set]
    split
    · rename_i hj; rw [← hj.1]; exact Sub.diff _ _
    · exact Sub.refl _
theorem sweep_sub {n i : Nat} (st : Sd) : SubF (sweepD p rs n i st).1 st.1 := by
  unfold sweepD
  exact foldl_inv (P := fun s : Sd => SubF s.1 st.1) _ _ (SubF.refl _) fun v _ s hs => (cut_sub s v).trans hs
theorem places_sub {n : Nat} : ∀ (is : List Nat) (st : Sd), SubF (placesD p rs n is st).1.1 st.1
  | [], _ => SubF.refl _
  | i :: is, st => by
    rw [placesD_cons]
    split
    · exact sweep_sub st
    · exact (places_sub is _).trans (sweep_sub st)
theorem rules_sub : ∀ (ns : List Nat) (st : Sd), SubF (rulesD p rs ns st).1.1 st.1
  | [], _ => SubF.refl _
  | n :: ns, st => by
    rw [rulesD_cons]
    split
    · exact (rules_sub ns _).trans (places_sub _ st)
    · exact places_sub _ st
theorem rounds_sub : ∀ (k : Nat) (st : Sd), SubF (roundsD p rs k st).1 st.1
  | 0, _ => SubF.refl _
  | k + 1, st => by
    rw [roundsD_succ]
    split
    · split
      · exact rules_sub _ st
      · exact (rounds_sub k _).trans (rules_sub _ st)
    · exact rules_sub _ st
theorem run_sub (f : List Nat) : SubF (runD p rs f).1 f := by
  unfold runD
  split
  · exact SubF.refl _
  · exact rounds_sub _ (f, [])

/-! where all is supported already, nothing is taken -/
theorem cuts_keep {n i : Nat} : ∀ (vs : List Nat) {st : Sd}, (∀ v ∈ vs, suppD st.1 (drget p.rules n) i v = true) → vs.foldl (cutV p rs n i) st = st
  | [], _, _ => rfl
  | v :: vs, st, h => by
    rw [List.foldl_cons, cut_keep (h v (by simp))]
    exact cuts_keep vs fun u hu => h u (by simp [hu])
theorem sweep_keep {n i : Nat} {st : Sd} (hc : Closed p.rules st.1) (hn : n < p.rules.length) (hi : i < (drget p.rules n).vars.length) : sweepD p rs n i st = st := by
  unfold sweepD
  exact cuts_keep _ fun v hv => hc _ (drget_mem hn) i hi v (mem_elems.1 hv).2
theorem places_keep (hpo : probD p = true) {st : Sd} (hc : Closed p.rules st.1) (hz : NzD p.doms.length st.1) {n : Nat} (hn : n < p.rules.length) : ∀ (is : List Nat), (∀ i ∈ is, i < (drget p.rules n).vars.length) → placesD p rs n is st = (st, true)
  | [], _ => rfl
  | i :: is, hi => by
    have := (ruleD_parts ((probD_parts hpo).2.2.2.2 n hn)).2.2.1 i (hi i (by simp))
    rw [placesD_cons, sweep_keep hc hn (hi i (by simp)), if_neg (hz _ (by omega))]
    exact places_keep hpo hc hz hn is fun j hj => hi j (by simp [hj])
theorem rules_keep (hpo : probD p = true) {st : Sd} (hc : Closed p.rules st.1) (hz : NzD p.doms.length st.1) : ∀ (ns : List Nat), (∀ n ∈ ns, n < p.rules.length) → rulesD p rs ns st = (st, true)
  | [], _ => rfl
  | n :: ns, hn => by
    rw [rulesD_cons, places_keep hpo hc hz (hn n (by simp)) _ (fun i hi => List.mem_range.1 hi), if_pos rfl]
    exact rules_keep hpo hc hz ns fun j hj => hn j (by simp [hj])
theorem run_keep (hpo : probD p = true) {f : List Nat} (hl : p.doms.length ≤ f.length) (hc : Closed p.rules f) (hz : NzD p.doms.length f) : runD p rs f = (f, []) := by
  unfold runD
  rw [if_neg]
  · rw [roundsD_succ, rules_keep hpo (st := (f, [])) hc hz _ (fun n hn => List.mem_range.1 hn)]
    simp
  · rw [List.contains_iff_mem]
    intro h0
    obtain ⟨y, hy, e⟩ := List.mem_iff_getElem.1 h0
    rw [List.length_take] at hy
    refine hz y (by omega) ?_
    simp at e
    unfold nget; rw [List.getElem?_eq_getElem (by omega)]; exact e
end
theorem sub_eq {a b : Nat} (h : Sub a b) (h' : Sub b a) : a = b := by
  apply Nat.eq_of_testBit_eq
  intro i
  cases ha : a.testBit i <;> cases hb : b.testBit i
  · rfl
  · have := h' i hb; rw [ha] at this; cases this
  · have := h i ha; rw [hb] at this; cases this
  · rfl
theorem subF_eq {f g : List Nat} (hl : f.length = g.length) (h : SubF f g) (h' : SubF g f) : f = g := nat_ext hl fun i _ => sub_eq (h i) (h' i)
theorem Void.not {p : Dp} {f : List Nat} (h : ¬ Void p f) : NzD p.doms.length f := fun y hy e => h ⟨y, hy, e⟩
/-- The order of the rules does not matter. -/
theorem run_order {p q : Dp} (hpo : probD p = true) (hqo : probD q = true) {rs rs' : Bool} (hd : p.doms.length = q.doms.length) (hr : ∀ r, r ∈ p.rules ↔ r ∈ q.rules) {f : List Nat} (hf : Fok f) (h : ¬ Void p (runD p rs f).1) : (runD q rs' f).1 = (runD p rs f).1 := by
  have hgp := (run_good (rs := rs) hpo hf).f
  have hgq := (run_good (rs := rs') hqo hf).f
  have hcp : Closed p.rules (runD p rs f).1 := (run_fix hpo hf).resolve_left h
  have hcq : Closed q.rules (runD p rs f).1 := fun r hr' => hcp r ((hr r).2 hr')
  have h1 := run_over (rs := rs') hqo hgp.lt hcq hf.lt (run_sub f)
  have hnv : ¬ Void q (runD q rs' f).1 := fun ⟨y, hy, e⟩ => h ⟨y, by omega, by
    have := h1 y
    rw [e] at this
    have hz := Void.not h y (by omega)
    exact absurd (this.nz (hgp.lt y) hz) (by simp)⟩
  have hcq2 : Closed q.rules (runD q rs' f).1 := (run_fix hqo hf).resolve_left hnv
  have h2 := run_over (rs := rs) hpo hgq.lt (fun r hr' => hcq2 r ((hr r).1 hr')) hf.lt (run_sub (p := q) (rs := rs') f)
  exact subF_eq (by rw [hgp.len, hgq.len]) h2 h1
end Go.Proofs.YtdmmegmkdhinjaaGreatDoor
