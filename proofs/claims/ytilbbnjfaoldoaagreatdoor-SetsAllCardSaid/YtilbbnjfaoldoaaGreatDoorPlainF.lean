/- Runs by induction, and what stands at their end. In plain Lean. -/
import Derived.Test.YtilbbnjfaoldoaaGreatDoorPlainE
namespace Go.Proofs.YtilbbnjfaoldoaaGreatDoor
open Go Go.RowKit

/-- A step of the propagation that says something. -/
structure StepH (p : Prob) (j v e : Nat) (st : St) (inn : Bool) : Prop where
  rule : j < p.rules.length
  has : (v : Int) ∈ (rget p.rules j).vars
  var : v < 8
  elem : e < 12
  opn : (openE (bget st.1 v)).testBit e = true
  good : Good p st
  poss : possB st.1 (rget p.rules j) = true
  try_ : tryE (rget p.rules j) st.1 v e = some inn
theorem stepE_none {p : Prob} {rs : Bool} {j v e : Nat} {st : St} (h : tryE (rget p.rules j) st.1 v e = none) : stepE p rs j v st e = st := by unfold stepE; rw [h]
theorem stepE_some {p : Prob} {rs : Bool} {j v e : Nat} {st : St} {inn : Bool} (h : tryE (rget p.rules j) st.1 v e = some inn) : stepE p rs j v st e = (withB st.1 v e inn, if rs then st.2 ++ [⟨v, e, inn, j, whyOf p st.2 ⟨v, e, inn, j, []⟩⟩] else st.2) := by unfold stepE; rw [h]
theorem tryE_true {r : Rl} {b : List Bnd} {v e : Nat} (h : tryE r b v e = some true) : possB (withB b v e false) r = false := by
  unfold tryE at h
  cases h1 : possB (withB b v e false) r
  · rfl
  · rw [h1] at h; cases h2 : possB (withB b v e true) r <;> rw [h2] at h <;> simp at h
theorem tryE_false {r : Rl} {b : List Bnd} {v e : Nat} (h : tryE r b v e = some false) : possB (withB b v e false) r = true ∧ possB (withB b v e true) r = false := by
  unfold tryE at h
  cases h1 : possB (withB b v e false) r
  · rw [h1] at h; simp at h
  · rw [h1] at h
    cases h2 : possB (withB b v e true) r
    · exact ⟨rfl, rfl⟩
    · rw [h2] at h; simp at h
theorem tryE_none {r : Rl} {b : List Bnd} {v e : Nat} (h : tryE r b v e = none) : possB (withB b v e false) r = true ∧ possB (withB b v e true) r = true := by
  unfold tryE at h
  cases h1 : possB (withB b v e false) r
  · rw [h1] at h; simp at h
  · rw [h1] at h
    cases h2 : possB (withB b v e true) r
    · rw [h2] at h; simp at h
    · exact ⟨rfl, rfl⟩
theorem StepH.poss_next {p : Prob} {j v e : Nat} {st : St} {inn : Bool} (hp : probOk p = true) (h : StepH p j v e st inn) : possB (withB st.1 v e inn) (rget p.rules j) = true := by
  cases inn
  · exact (tryE_false h.try_).1
  · rcases poss_split (probOk_fine hp j h.rule) h.good.s12 h.poss (v := v) (e := e) (by rw [h.good.len]; exact h.var) with h1 | h1
    · exact h1
    · rw [tryE_true h.try_] at h1; cases h1
section
variable {p : Prob} {rs : Bool} {I : St → Prop}
theorem stE_ind (hp : probOk p = true) (hs : ∀ j v e st inn, StepH p j v e st inn → I st → I (stepE p rs j v st e)) {j v : Nat} (hj : j < p.rules.length) (hv : v < 8) (hm : (v : Int) ∈ (rget p.rules j).vars) : ∀ (es : List Nat) {st : St}, Good p st → es.Nodup → (∀ e ∈ es, e < 12 ∧ (openE (bget st.1 v)).testBit e = true) → possB st.1 (rget p.rules j) = true → I st →
    I (stE p rs j v st es) ∧ possB (stE p rs j v st es).1 (rget p.rules j) = true
  | [], _, _, _, _, h1, h2 => ⟨h2, h1⟩
  | e :: es, st, hg, hn, ho, h1, h2 => by
    have hne := List.nodup_cons.1 hn
    have h12 := ho e (by simp)
    have hst := hg.step (rs := rs) (j := j) hv h12.1 h12.2
    have hnext : I (stepE p rs j v st e) ∧ possB (stepE p rs j v st e).1 (rget p.rules j) = true := by
      cases ht : tryE (rget p.rules j) st.1 v e with
      | none => rw [stepE_none ht]; exact ⟨h2, h1⟩
      | some inn =>
        have hh : StepH p j v e st inn := ⟨hj, hm, hv, h12.1, h12.2, hg, h1, ht⟩
        exact ⟨hs j v e st inn hh h2, by rw [stepE_some ht]; exact hh.poss_next hp⟩
    exact stE_ind hp hs hj hv hm es hst.1 hne.2 (fun e' he' => ⟨(ho e' (by simp [he'])).1, by rw [hst.2.2.2 e' (fun hh => hne.1 (hh ▸ he'))]; exact (ho e' (by simp [he'])).2⟩) hnext.2 hnext.1
theorem stV_ind (hp : probOk p = true) (hs : ∀ j v e st inn, StepH p j v e st inn → I st → I (stepE p rs j v st e)) {j : Nat} (hj : j < p.rules.length) : ∀ (vs : List Int) {st : St}, Good p st → (∀ v ∈ vs, v ∈ (rget p.rules j).vars ∧ 0 ≤ v ∧ v < 8) → possB st.1 (rget p.rules j) = true → I st →
    I (stV p rs j st vs) ∧ possB (stV p rs j st vs).1 (rget p.rules j) = true
  | [], _, _, _, h1, h2 => ⟨h2, h1⟩
  | v :: vs, st, hg, hv, h1, h2 => by
    have hv0 := hv v (by simp)
    have hvn : (v.toNat : Int) = v := by omega
    have h3 := stE_ind hp hs hj (v := v.toNat) (by omega) (by rw [hvn]; exact hv0.1) (elems (openE (bget st.1 v.toNat))) hg (elems_nodup _) (fun e he => open_elems (hg.s12.get _).2 he) h1 h2
    exact stV_ind hp hs hj vs (hg.var (rs := rs) (j := j) hv0.2).1 (fun v' h' => hv v' (by simp [h'])) h3.2 h3.1
theorem ruleSt_ind (hp : probOk p = true) (hs : ∀ j v e st inn, StepH p j v e st inn → I st → I (stepE p rs j v st e)) {j : Nat} (hj : j < p.rules.length) {st : St} (hg : Good p st) (h1 : possB st.1 (rget p.rules j) = true) (h2 : I st) : I (ruleSt p rs j st) :=
  (stV_ind hp hs hj _ hg (fun v hv => ⟨hv, ((probOk_fit hp).2.2.2.1 j hj).mem v hv⟩) h1 h2).1
theorem rulesSt_ind (hp : probOk p = true) (hs : ∀ j v e st inn, StepH p j v e st inn → I st → I (stepE p rs j v st e)) : ∀ (m j : Nat) {st : St}, Good p st → j + m ≤ p.rules.length → I st →
    I (rulesSt p rs m j st).1 ∧ ∀ k, (rulesSt p rs m j st).2 = some k → k < p.rules.length ∧ possB (rulesSt p rs m j st).1.1 (rget p.rules k) = false
  | 0, _, _, _, _, h2 => ⟨h2, fun _ h => by cases h⟩
  | m + 1, j, st, hg, hj, h2 => by
    unfold rulesSt
    cases hb : possB st.1 (rget p.rules j)
    · simp only [Bool.false_eq_true, if_false]
      exact ⟨h2, fun k hk => by cases hk; exact ⟨by omega, hb⟩⟩
    · simp only [if_true]
      exact rulesSt_ind hp hs m (j + 1) (hg.rule (rs := rs) ((probOk_fit hp).2.2.2.1 j (by omega))).1 (by omega) (ruleSt_ind hp hs (by omega) hg hb h2)
theorem runSt_ind (hp : probOk p = true) (hs : ∀ j v e st inn, StepH p j v e st inn → I st → I (stepE p rs j v st e)) : ∀ (k : Nat) {st : St}, Good p st → I st →
    I (runSt p rs k st).1 ∧ ((runSt p rs k st).2 = -1 ∨ ∃ j : Nat, (runSt p rs k st).2 = j ∧ j < p.rules.length ∧ possB (runSt p rs k st).1.1 (rget p.rules j) = false)
  | 0, _, _, h2 => ⟨h2, .inl rfl⟩
  | k + 1, st, hg, h2 => by
    have h3 := rulesSt_ind hp hs p.rules.length 0 hg (by omega) h2
    have h4 := Good.rules (rs := rs) (probOk_fit hp).2.2.2.1 p.rules.length 0 hg (by omega)
    unfold runSt
    cases hr : rulesSt p rs p.rules.length 0 st with
    | mk st' o =>
      rw [hr] at h3 h4
      cases o with
      | some j => exact ⟨h3.1, .inr ⟨j, rfl, h3.2 j rfl⟩⟩
      | none =>
        dsimp only
        split
        · exact ⟨h3.1, .inl rfl⟩
        · exact runSt_ind hp hs k h4.1 h3.1
theorem runR_ind (hp : probOk p = true) (hs : ∀ j v e st inn, StepH p j v e st inn → I st → I (stepE p rs j v st e)) {b : List Bnd} (hg : Good p (b, [])) (h0 : I (b, [])) :
    I (runR p rs (b, [])).1 ∧ ((runR p rs (b, [])).2 = -1 ∨ ∃ j : Nat, (runR p rs (b, [])).2 = j ∧ j < p.rules.length ∧ possB (runR p rs (b, [])).1.1 (rget p.rules j) = false) := runSt_ind hp hs _ hg h0
end
/-- Nothing more is said of bounds by any rule. -/
def Fix (p : Prob) (b : List Bnd) : Prop := ∀ j, j < p.rules.length → possB b (rget p.rules j) = true ∧ ∀ v ∈ (rget p.rules j).vars, ∀ e, (openE (bget b v.toNat)).testBit e = true → tryE (rget p.rules j) b v.toNat e = none
theorem stE_fix {p : Prob} {rs : Bool} {j v : Nat} (hv : v < 8) : ∀ (es : List Nat) {st : St}, Good p st → es.Nodup → (∀ e ∈ es, e < 12 ∧ (openE (bget st.1 v)).testBit e = true) → openN (stE p rs j v st es).1 = openN st.1 → stE p rs j v st es = st ∧ ∀ e ∈ es, tryE (rget p.rules j) st.1 v e = none
  | [], _, _, _, _, _ => ⟨rfl, fun _ h => by cases h⟩
  | e :: es, st, hg, hn, ho, h => by
    have hne := List.nodup_cons.1 hn
    have h12 := ho e (by simp)
    have hst := hg.step (rs := rs) (j := j) hv h12.1 h12.2
    have hrest := Good.steps (rs := rs) (j := j) hv es hst.1 hne.2 (fun e' he' => ⟨(ho e' (by simp [he'])).1, by rw [hst.2.2.2 e' (fun hh => hne.1 (hh ▸ he'))]; exact (ho e' (by simp [he'])).2⟩)
    have heq : stE p rs j v st (e :: es) = stE p rs j v (stepE p rs j v st e) es := rfl
    rw [heq] at h ⊢
    have ht : tryE (rget p.rules j) st.1 v e = none := by
      cases ht : tryE (rget p.rules j) st.1 v e with
      | none => rfl
      | some inn =>
        exfalso
        have := openN_withB st.1 v e inn (by rw [hg.len]; exact hv) h12.1 h12.2
        have h5 := hrest.2.1
        rw [h, stepE_some ht] at h5
        dsimp only at h5
        omega
    rw [stepE_none ht] at h ⊢
    have h6 := stE_fix hv es hg hne.2 (fun e' he' => ho e' (by simp [he'])) h
    exact ⟨h6.1, fun e' he' => by
      rcases List.mem_cons.1 he' with h7 | h7
      · rw [h7]; exact ht
      · exact h6.2 e' h7⟩
theorem stV_fix {p : Prob} {rs : Bool} {j : Nat} : ∀ (vs : List Int) {st : St}, Good p st → (∀ v ∈ vs, 0 ≤ v ∧ v < 8) → openN (stV p rs j st vs).1 = openN st.1 → stV p rs j st vs = st ∧ ∀ v ∈ vs, ∀ e, (openE (bget st.1 v.toNat)).testBit e = true → tryE (rget p.rules j) st.1 v.toNat e = none
  | [], _, _, _, _ => ⟨rfl, fun _ h => by cases h⟩
  | v :: vs, st, hg, hv, h => by
    have hv0 := hv v (by simp)
    have h1 := hg.var (rs := rs) (j := j) hv0
    have h2 := Good.vars (rs := rs) (j := j) vs h1.1 (fun v' h' => hv v' (by simp [h']))
    have heq : stV p rs j st (v :: vs) = stV p rs j (stepV p rs j st v) vs := rfl
    rw [heq] at h ⊢
    have h3 : openN (stepV p rs j st v).1 = openN st.1 := Nat.le_antisymm h1.2.1 (by rw [← h]; exact h2.2.1)
    have h4 := stE_fix (rs := rs) (j := j) (v := v.toNat) (by omega) (elems (openE (bget st.1 v.toNat))) hg (elems_nodup _) (fun e he => open_elems (hg.s12.get _).2 he) h3
    have h5 : stepV p rs j st v = st := h4.1
    rw [h5] at h ⊢
    have h6 := stV_fix vs hg (fun v' h' => hv v' (by simp [h'])) h
    refine ⟨h6.1, fun v' hv' e he => ?_⟩
    rcases List.mem_cons.1 hv' with h7 | h7
    · subst h7
      have hb : (bget st.1 v'.toNat).can.testBit e = true := by have := he; rw [openE_testBit, Bool.and_eq_true] at this; exact this.1
      exact h4.2 e (elems_mem.2 ⟨Nat.lt_trans (s12_bit (hg.s12.get _).2 hb) (by decide), he⟩)
    · exact h6.2 v' h7 e he
theorem rulesSt_fix {p : Prob} {rs : Bool} (hp : probOk p = true) : ∀ (m j : Nat) {st : St}, Good p st → j + m ≤ p.rules.length → (rulesSt p rs m j st).2 = none → openN (rulesSt p rs m j st).1.1 = openN st.1 →
    (rulesSt p rs m j st).1 = st ∧ ∀ k, j ≤ k → k < j + m → possB st.1 (rget p.rules k) = true ∧ ∀ v ∈ (rget p.rules k).vars, ∀ e, (openE (bget st.1 v.toNat)).testBit e = true → tryE (rget p.rules k) st.1 v.toNat e = none
  | 0, _, _, _, _, _, _ => ⟨rfl, fun _ h1 h2 => by omega⟩
  | m + 1, j, st, hg, hj, h0, h => by
    unfold rulesSt at h0 h ⊢
    cases hb : possB st.1 (rget p.rules j)
    · rw [hb] at h0; simp at h0
    · rw [hb] at h0 h
      simp only [if_true] at h0 h ⊢
      have hf := (probOk_fit hp).2.2.2.1
      have h1 := hg.rule (rs := rs) (hf j (by omega))
      have h2 := Good.rules (rs := rs) hf m (j + 1) h1.1 (by omega)
      have h3 : openN (ruleSt p rs j st).1 = openN st.1 := Nat.le_antisymm h1.2.1 (by rw [← h]; exact h2.2.1)
      have h4 := stV_fix (rs := rs) (j := j) _ hg (hf j (by omega)).mem h3
      have h5 : ruleSt p rs j st = st := h4.1
      rw [h5] at h0 h ⊢
      have h6 := rulesSt_fix hp m (j + 1) hg (by omega) h0 h
      refine ⟨h6.1, fun k hk1 hk2 => ?_⟩
      by_cases hkj : k = j
      · subst hkj; exact ⟨hb, h4.2⟩
      · exact h6.2 k (by omega) (by omega)
theorem runSt_fix {p : Prob} {rs : Bool} (hp : probOk p = true) : ∀ (k : Nat) {st : St}, Good p st → openN st.1 < k → (runSt p rs k st).2 = -1 → Fix p (runSt p rs k st).1.1
  | 0, _, _, h, _ => absurd h (Nat.not_lt_zero _)
  | k + 1, st, hg, hk, h => by
    have h4 := Good.rules (rs := rs) (probOk_fit hp).2.2.2.1 p.rules.length 0 hg (by omega)
    have h5 := rulesSt_fix (rs := rs) hp p.rules.length 0 hg (by omega)
    unfold runSt at h ⊢
    cases hr : rulesSt p rs p.rules.length 0 st with
    | mk st' o =>
      rw [hr] at h4 h5 h
      cases o with
      | some j => dsimp only at h; omega
      | none =>
        dsimp only at h h4 h5 ⊢
        by_cases he : st'.1 = st.1
        · rw [if_pos he]
          have h6 := h5 rfl (by rw [he])
          intro j hj
          rw [he]
          exact h6.2 j (Nat.zero_le _) (by omega)
        · rw [if_neg he] at h ⊢
          refine runSt_fix hp k h4.1 ?_ h
          rcases h4.2.2 with h7 | h7
          · exact absurd h7 he
          · omega
theorem runR_fix {p : Prob} {rs : Bool} (hp : probOk p = true) {b : List Bnd} (hg : Good p (b, [])) (h : (runR p rs (b, [])).2 = -1) : Fix p (runR p rs (b, [])).1.1 := runSt_fix hp _ hg (Nat.lt_succ_self _) h
/-- Where rules say nothing more, a run says nothing. -/
theorem stE_none {p : Prob} {rs : Bool} {j v : Nat} : ∀ (es : List Nat) {st : St}, (∀ e ∈ es, tryE (rget p.rules j) st.1 v e = none) → stE p rs j v st es = st
  | [], _, _ => rfl
  | e :: es, st, h => by
    have : stE p rs j v st (e :: es) = stE p rs j v (stepE p rs j v st e) es := rfl
    rw [this, stepE_none (h e (by simp))]
    exact stE_none es fun e' he' => h e' (by simp [he'])
theorem stV_none {p : Prob} {rs : Bool} {j : Nat} : ∀ (vs : List Int) {st : St}, (∀ v ∈ vs, ∀ e, (openE (bget st.1 v.toNat)).testBit e = true → tryE (rget p.rules j) st.1 v.toNat e = none) → stV p rs j st vs = st
  | [], _, _ => rfl
  | v :: vs, st, h => by
    have h1 : stV p rs j st (v :: vs) = stV p rs j (stepV p rs j st v) vs := rfl
    have h2 : stepV p rs j st v = st := stE_none _ fun e he => h v (by simp) e (elems_mem.1 he).2
    rw [h1, h2]
    exact stV_none vs fun v' hv' => h v' (by simp [hv'])
theorem rulesSt_none {p : Prob} {rs : Bool} {st : St} (hf : Fix p st.1) : ∀ (m j : Nat), j + m ≤ p.rules.length → rulesSt p rs m j st = (st, none)
  | 0, _, _ => rfl
  | m + 1, j, hj => by
    unfold rulesSt
    have h := hf j (by omega)
    rw [h.1]
    simp only [if_true]
    rw [show ruleSt p rs j st = st from stV_none _ h.2]
    exact rulesSt_none hf m (j + 1) (by omega)
theorem runR_none {p : Prob} {rs : Bool} {b : List Bnd} (hf : Fix p b) : runR p rs (b, []) = ((b, []), -1) := by
  unfold runR runSt
  rw [rulesSt_none (st := (b, [])) hf _ _ (by omega)]
  simp
theorem poss_sub {b : List Bnd} {r : Rl} (h : possB b r = true) {v : Int} (hv : v ∈ r.vars) {e : Nat} (hi : (bget b v.toNat).inn.testBit e = true) : (bget b v.toNat).can.testBit e = true := by
  unfold possB possL at h
  rw [Bool.and_eq_true] at h
  obtain ⟨i, hi', rfl⟩ := List.mem_iff_getElem.1 hv
  have := clash_ofB.1 (by simpa using h.1) i hi' e
  rw [show iget r.vars i = r.vars[i] by simp [iget, hi']] at this
  exact this hi
/-- At the end a fact follows just if it is there. -/
theorem Fix.follows {p : Prob} {b : List Bnd} (hp : probOk p = true) (h : Fix p b) (h12 : S12 b) (hsub : Sub b) (h8 : b.length = 8) {j : Nat} (hj : j < p.rules.length) {v : Nat} (hv : (v : Int) ∈ (rget p.rules j).vars) (e : Nat) :
    possB (withB b v e false) (rget p.rules j) = !(bget b v).inn.testBit e ∧ possB (withB b v e true) (rget p.rules j) = (bget b v).can.testBit e := by
  have hf := probOk_fine hp j hj
  have hv8 : v < b.length := by have := hf.fit.mem _ hv; omega
  have hj' := h j hj
  have hself : ∀ inn, ((bget b v).inn.testBit e = true ∨ inn = false) → ((bget b v).can.testBit e = false ∨ inn = true) → possB (withB b v e inn) (rget p.rules j) = true := fun inn h1 h2 => by
    refine poss_mono hf h12 (fun i k => ?_) hj'.1
    have hw := withB_bits b v e inn hv8 i k
    rw [hw.1, hw.2]
    refine ⟨fun x => ?_, fun x => ?_⟩
    · rw [Bool.or_eq_true] at x
      rcases x with x | x
      · exact x
      · simp only [Bool.and_eq_true, decide_eq_true_eq] at x
        obtain ⟨⟨x1, rfl⟩, rfl⟩ := x
        rcases h1 with h1 | h1
        · exact h1
        · rw [h1] at x1; cases x1
    · rw [Bool.and_eq_true]
      refine ⟨x, ?_⟩
      cases inn
      · simp only [Bool.not_false, Bool.true_and, Bool.not_eq_true', Bool.and_eq_false_iff, decide_eq_false_iff_not]
        by_cases hiv : i = v
        · subst hiv
          by_cases hke : k = e
          · subst hke
            rcases h2 with h2 | h2
            · rw [h2] at x; cases x
            · cases h2
          · exact .inr hke
        · exact .inl hiv
      · rfl
  have hno : ∀ inn, (bget (withB b v e inn) v).inn.testBit e = true → (bget (withB b v e inn) v).can.testBit e = false → possB (withB b v e inn) (rget p.rules j) = false := fun inn h1 h2 => by
    cases hb : possB (withB b v e inn) (rget p.rules j)
    · rfl
    · have := poss_sub hb hv (e := e)
      rw [Int.toNat_natCast] at this
      rw [this h1] at h2; cases h2
  cases hi : (bget b v).inn.testBit e
  · cases hc : (bget b v).can.testBit e
    · refine ⟨hself false (.inr rfl) (.inl hc), hno true ?_ ?_⟩
      · rw [(withB_bits b v e true hv8 v e).1]; simp
      · rw [(withB_bits b v e true hv8 v e).2, hc]; rfl
    · have ho : (openE (bget b v)).testBit e = true := by rw [openE_testBit, hi, hc]; rfl
      have := tryE_none (hj'.2 v hv e (by rw [Int.toNat_natCast]; exact ho))
      rw [Int.toNat_natCast] at this
      exact this
  · have hc := hsub v e hi
    rw [hc]
    refine ⟨hno false ?_ ?_, hself true (.inl hi) (.inr rfl)⟩
    · rw [(withB_bits b v e false hv8 v e).1, hi]; rfl
    · rw [(withB_bits b v e false hv8 v e).2]; simp
/-- What bounds at which nothing more is said stay inside of. -/
theorem run_inside {p q : Prob} {rs : Bool} (hp : probOk p = true) (hq : probOk q = true) (hr : ∀ i, i < q.rules.length → ∃ j, j < p.rules.length ∧ rget q.rules i = rget p.rules j) {a b : List Bnd} (hf : Fix p a) (h12 : S12 a) (hsub : Sub a) (h8 : a.length = 8) (hb : Good q (b, [])) (ht : Tight a b) :
    Tight a (runR q rs (b, [])).1.1 ∧ (runR q rs (b, [])).2 = -1 := by
  have h := runR_ind (p := q) (rs := rs) (I := fun st => Tight a st.1) hq (fun i v e st inn hh ht => by
    obtain ⟨j, hj, hij⟩ := hr i hh.rule
    have hm := hh.has
    rw [hij] at hm
    have hfo := hf.follows hp h12 hsub h8 hj hm e
    have htr := hh.try_
    rw [hij] at htr
    have hva : v < a.length := by rw [h8]; exact hh.var
    have hvs : v < st.1.length := by rw [hh.good.len]; exact hh.var
    rw [stepE_some hh.try_]
    show Tight a (withB st.1 v e inn)
    have hmono : ∀ x, possB (withB st.1 v e x) (rget p.rules j) = false → possB (withB a v e x) (rget p.rules j) = false := fun x hx => by
      cases hc : possB (withB a v e x) (rget p.rules j)
      · rfl
      · rw [poss_mono (probOk_fine hp j hj) (h12.with hh.elem x) (ht.withs (inn := x) hva hvs) hc] at hx; cases hx
    intro i' k
    have hw := withB_bits st.1 v e inn hvs i' k
    rw [hw.1, hw.2]
    cases inn
    · have h1 := hmono true (tryE_false htr).2
      rw [hfo.2] at h1
      refine ⟨fun x => (ht i' k).1 (by simpa using x), fun x => ?_⟩
      rw [Bool.and_eq_true]
      refine ⟨(ht i' k).2 x, ?_⟩
      simp only [Bool.not_false, Bool.true_and, Bool.not_eq_true', Bool.and_eq_false_iff, decide_eq_false_iff_not]
      by_cases hiv : i' = v
      · subst hiv
        refine .inr fun hke => ?_
        subst hke
        rw [h1] at x; cases x
      · exact .inl hiv
    · have h1 := hmono false (tryE_true htr)
      rw [hfo.1] at h1
      refine ⟨fun x => ?_, fun x => by simpa using (ht i' k).2 x⟩
      rw [Bool.or_eq_true] at x
      rcases x with x | x
      · exact (ht i' k).1 x
      · simp only [Bool.true_and, Bool.and_eq_true, decide_eq_true_eq] at x
        obtain ⟨rfl, rfl⟩ := x
        simpa using h1) hb ht
  refine ⟨h.1, ?_⟩
  rcases h.2 with h2 | ⟨i, _, hi, h3⟩
  · exact h2
  · obtain ⟨j, hj, hij⟩ := hr i hi
    rw [hij] at h3
    rw [poss_mono (probOk_fine hp j hj) h12 h.1 (hf j hj).1] at h3; cases h3
theorem run_tight {p : Prob} {rs : Bool} (hp : probOk p = true) {b : List Bnd} (hb : Good p (b, [])) : Tight (runR p rs (b, [])).1.1 b :=
  (runR_ind (rs := rs) (I := fun st => Tight st.1 b) hp (fun j v e st inn hh ht => by
    rw [stepE_some hh.try_]
    exact (Tight.with st.1 v e inn (by rw [hh.good.len]; exact hh.var)).trans ht) hb (Tight.refl _)).1
theorem bnd_ext {x y : Bnd} (h1 : ∀ e, x.inn.testBit e = y.inn.testBit e) (h2 : ∀ e, x.can.testBit e = y.can.testBit e) : x = y := by
  cases x; cases y
  congr 1
  · exact Nat.eq_of_testBit_eq h1
  · exact Nat.eq_of_testBit_eq h2
theorem Tight.antisymm {a b : List Bnd} (h : Tight a b) (h' : Tight b a) (hl : a.length = b.length) : a = b := by
  apply List.ext_getElem hl
  intro i h1 h2
  have e1 : bget a i = a[i] := by simp [bget, h1]
  have e2 : bget b i = b[i] := by simp [bget, h2]
  rw [← e1, ← e2]
  exact bnd_ext (fun e => Bool.eq_iff_iff.2 ⟨(h' i e).1, (h i e).1⟩) (fun e => Bool.eq_iff_iff.2 ⟨(h i e).2, (h' i e).2⟩)
end Go.Proofs.YtilbbnjfaoldoaaGreatDoor
