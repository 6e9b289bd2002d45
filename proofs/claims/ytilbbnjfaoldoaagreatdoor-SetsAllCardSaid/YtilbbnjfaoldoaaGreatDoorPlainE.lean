/- What a rule's test says, exactly: it holds for some sets between the bounds. In plain Lean. -/
import Derived.Test.YtilbbnjfaoldoaaGreatDoorBI
namespace Go.Proofs.YtilbbnjfaoldoaaGreatDoor
open Go Go.RowKit

/-- Sets by place lie between bounds. -/
def TCon (b : List Bnd) (r : Rl) (t : Nat → Nat → Bool) : Prop := ∀ i, i < r.vars.length → ∀ e,
  ((bget b (iget r.vars i).toNat).inn.testBit e = true → t i e = true) ∧ (t i e = true → (bget b (iget r.vars i).toNat).can.testBit e = true)
def THolds (r : Rl) (t : Nat → Nat → Bool) : Prop :=
  if r.kind = 6 then (((List.range 64).countP (t 0) : Nat) : Int) ≤ r.high ∧ r.low ≤ (((List.range 64).countP (t 0) : Nat) : Int) else ∀ e, e < 12 → asksB r.kind (t 0 e) (t 1 e) (t 2 e) = true
def VDist (r : Rl) : Prop := ∀ i j, i < r.vars.length → j < r.vars.length → iget r.vars i = iget r.vars j → i = j
structure RFine (r : Rl) : Prop where
  fit : RFit r
  dist : VDist r
  low : r.kind = 6 → r.low ≤ r.high
theorem asksB_two {k : Int} (h : k = 1 ∨ k = 2) (a b c c' : Bool) : asksB k a b c = asksB k a b c' := by rcases h with rfl | rfl <;> rfl
theorem sDiff_zero {a b : Nat} : (sDiff a b == 0) = true ↔ ∀ i, a.testBit i = true → b.testBit i = true := by
  constructor
  · intro h i hi
    have h0 : sDiff a b = 0 := by simpa using h
    have := sDiff_testBit a b i
    rw [h0, Nat.zero_testBit, hi] at this
    cases hb : b.testBit i
    · rw [hb] at this; cases this
    · rfl
  · intro h
    rw [beq_iff_eq]
    apply Nat.eq_of_testBit_eq
    intro i
    rw [sDiff_testBit, Nat.zero_testBit]
    cases ha : a.testBit i
    · rfl
    · rw [h i ha]; rfl
def mk3 (a b c : Bool) : Nat := a.toNat + 2 * b.toNat + 4 * c.toNat
theorem mk3_bits (a b c : Bool) : (mk3 a b c).testBit 0 = a ∧ (mk3 a b c).testBit 1 = b ∧ (mk3 a b c).testBit 2 = c := by cases a <;> cases b <;> cases c <;> decide
theorem mk3_lt (a b c : Bool) : mk3 a b c < 8 := by cases a <;> cases b <;> cases c <;> decide
theorem mk3_lt2 (a b : Bool) : mk3 a b false < 4 := by cases a <;> cases b <;> decide
theorem clash_ofB {b : List Bnd} {vars : List Int} : clashB (ofB b vars) = false ↔ ∀ i, i < vars.length → ∀ e, (bget b (iget vars i).toNat).inn.testBit e = true → (bget b (iget vars i).toNat).can.testBit e = true := by
  unfold clashB ofB
  rw [List.any_map, List.any_eq_false]
  constructor
  · intro h i hi e
    have h1 := h vars[i] (List.getElem_mem hi)
    rw [show vars[i] = iget vars i by simp [iget, hi]] at h1
    simp only [Function.comp_apply, clashAt, Bool.not_eq_true, Bool.not_eq_false'] at h1
    exact sDiff_zero.1 h1 e
  · intro h x hx
    obtain ⟨i, hi, rfl⟩ := List.mem_iff_getElem.1 hx
    rw [show vars[i] = iget vars i by simp [iget, hi]]
    simp only [Function.comp_apply, clashAt, Bool.not_eq_true, Bool.not_eq_false']
    exact sDiff_zero.2 (h i hi)
theorem ofB_length (b : List Bnd) (vars : List Int) : (ofB b vars).length = vars.length := by simp [ofB]
/-- Between two sets there is one of each size between theirs. -/
theorem between_count {A C : Nat → Bool} (h : ∀ i, A i = true → C i = true) : ∀ n m, (List.range n).countP A ≤ m → m ≤ (List.range n).countP C → ∃ S : Nat → Bool, (∀ i, A i = true → S i = true) ∧ (∀ i, S i = true → C i = true) ∧ (List.range n).countP S = m
  | 0, m, _, h2 => ⟨A, fun _ h => h, h, by simp at h2; simp [h2]⟩
  | n + 1, m, h1, h2 => by
    rw [List.range_succ, List.countP_append, List.countP_singleton] at h1 h2
    have key : ∀ S : Nat → Bool, (List.range (n + 1)).countP S = (List.range n).countP S + if S n = true then 1 else 0 := fun S => by
      rw [List.range_succ, List.countP_append, List.countP_singleton]
    cases ha : A n
    · rw [ha] at h1
      simp only [Bool.false_eq_true, if_false, Nat.add_zero] at h1
      by_cases hm : m ≤ (List.range n).countP C
      · obtain ⟨S, s1, s2, s3⟩ := between_count h n m h1 hm
        refine ⟨fun i => if i = n then false else S i, fun i hi => ?_, fun i hi => ?_, ?_⟩
        · show (if i = n then false else S i) = true
          rw [if_neg (fun hh => by subst hh; rw [ha] at hi; cases hi)]; exact s1 i hi
        · try dsimp only at hi
          split at hi
          · cases hi
          · exact s2 i hi
        · rw [key]
          simp only [if_true, Bool.false_eq_true, if_false, Nat.add_zero]
          rw [← s3]
          apply List.countP_congr
          intro x hx
          have := List.mem_range.1 hx
          rw [if_neg (by omega)]
      · cases hc : C n
        · rw [hc] at h2; simp at h2; omega
        · rw [hc] at h2
          simp only [if_true] at h2
          refine ⟨C, h, fun _ h => h, ?_⟩
          rw [key, hc]
          simp only [if_true]
          omega
    · have hc := h n ha
      rw [ha] at h1
      rw [hc] at h2
      simp only [if_true] at h1 h2
      obtain ⟨S, s1, s2, s3⟩ := between_count h n (m - 1) (by omega) (by omega)
      exact ⟨S, s1, s2, by rw [key, s1 n ha, s3]; simp only [if_true]; omega⟩
theorem s12_bit {x e : Nat} (h : x < 4096) (hb : x.testBit e = true) : e < 12 := by
  rcases Nat.lt_or_ge e 12 with h3 | h3
  · exact h3
  · have : x < 2 ^ e := Nat.lt_of_lt_of_le h (show 2 ^ 12 ≤ 2 ^ e from Nat.pow_le_pow_right (Nat.succ_pos 1) h3)
    rw [Nat.testBit_lt_two_pow this] at hb; cases hb
theorem poss_ex {b : List Bnd} {r : Rl} (hf : RFine r) (hs : S12 b) (h : possB b r = true) : ∃ t, TCon b r t ∧ THolds r t := by
  unfold possB possL at h
  rw [Bool.and_eq_true] at h
  have hcl := clash_ofB.1 (by simpa using h.1)
  have h2 := h.2
  rcases hf.fit.1 with ⟨hk, hl⟩ | hk
  · rw [if_pos (by simp [hk]), bget_ofB _ _ _ (by omega), Bool.and_eq_true, decide_eq_true_eq, decide_eq_true_eq] at h2
    have hlo := hf.low hk
    obtain ⟨m, hm1, hm2, hm3⟩ : ∃ m : Nat, popc (bget b (iget r.vars 0).toNat).inn ≤ m ∧ m ≤ popc (bget b (iget r.vars 0).toNat).can ∧ (m : Int) ≤ r.high ∧ r.low ≤ m := by
      have hmono : popc (bget b (iget r.vars 0).toNat).inn ≤ popc (bget b (iget r.vars 0).toNat).can := List.countP_mono_left fun x _ hx => hcl 0 (by omega) x hx
      by_cases hc : r.low ≤ popc (bget b (iget r.vars 0).toNat).inn
      · exact ⟨_, Nat.le_refl _, hmono, h2.1, hc⟩
      · exact ⟨r.low.toNat, by omega, by omega, by omega, by omega⟩
    obtain ⟨S, s1, s2, s3⟩ := between_count (hcl 0 (by omega)) 64 m hm1 hm2
    refine ⟨fun _ => S, fun i hi e => ?_, ?_⟩
    · obtain rfl : i = 0 := by omega
      exact ⟨s1 e, s2 e⟩
    · unfold THolds
      rw [if_pos hk]
      show (((List.range 64).countP S : Nat) : Int) ≤ _ ∧ _
      rw [s3]; exact hm3
  · have hk6 : r.kind ≠ 6 := by rcases hk with ⟨h | h, _⟩ | ⟨h | h | h, _⟩ <;> omega
    rw [if_neg (by simp [hk6]), List.all_eq_true] at h2
    have h3 : ∀ e, e < 12 → ∃ mask, allowedB (ofB b r.vars) e mask = true ∧ asksB r.kind (mask.testBit 0) (mask.testBit 1) (mask.testBit 2) = true := fun e he => by
      have := h2 e (List.mem_range.2 he)
      unfold elemOk at this
      obtain ⟨mask, _, hm⟩ := List.any_eq_true.1 this
      rw [Bool.and_eq_true] at hm
      exact ⟨mask, hm.1, hm.2⟩
    obtain ⟨mk, hmk⟩ : ∃ mk : Nat → Nat, ∀ e, e < 12 → allowedB (ofB b r.vars) e (mk e) = true ∧ asksB r.kind ((mk e).testBit 0) ((mk e).testBit 1) ((mk e).testBit 2) = true :=
      ⟨fun e => if h : e < 12 then (h3 e h).choose else 0, fun e he => by
        have := (h3 e he).choose_spec
        simp only [dif_pos he]; exact this⟩
    clear h2 h3
    refine ⟨fun i e => decide (e < 12) && (mk e).testBit i, fun i hi e => ?_, ?_⟩
    · try dsimp only
      by_cases he : e < 12
      · have ha := (hmk e he).1
        unfold allowedB at ha
        have := List.all_eq_true.1 ha i (List.mem_range.2 (by rw [ofB_length]; exact hi))
        rw [bget_ofB _ _ _ hi] at this
        unfold allowedAt at this
        rw [decide_eq_true he, Bool.true_and]
        cases hb : (mk e).testBit i
        · rw [hb] at this
          simp only [Bool.false_eq_true, if_false, Bool.not_eq_true'] at this
          exact ⟨fun hh => by (rw [this] at hh; cases hh), fun hh => by cases hh⟩
        · rw [hb] at this
          simp only [if_true] at this
          exact ⟨fun _ => rfl, fun _ => this⟩
      · rw [decide_eq_false he, Bool.false_and]
        exact ⟨fun hh => absurd (s12_bit (hs.get _).1 hh) he, fun hh => by cases hh⟩
    · unfold THolds
      rw [if_neg hk6]
      intro e he
      simp only [decide_eq_true he, Bool.true_and]
      exact (hmk e he).2
theorem poss_of {b : List Bnd} {r : Rl} (hf : RFine r) {t : Nat → Nat → Bool} (hc : TCon b r t) (hh : THolds r t) : possB b r = true := by
  unfold possB possL
  rw [Bool.and_eq_true]
  refine ⟨by rw [clash_ofB.2 fun i hi e h => (hc i hi e).2 ((hc i hi e).1 h)]; rfl, ?_⟩
  rcases hf.fit.1 with ⟨hk, hl⟩ | hk
  · rw [if_pos (by simp [hk]), bget_ofB _ _ _ (by omega), Bool.and_eq_true, decide_eq_true_eq, decide_eq_true_eq]
    unfold THolds at hh
    rw [if_pos hk] at hh
    have h1 : popc (bget b (iget r.vars 0).toNat).inn ≤ (List.range 64).countP (t 0) := List.countP_mono_left fun x _ hx => (hc 0 (by omega) x).1 hx
    have h2 : (List.range 64).countP (t 0) ≤ popc (bget b (iget r.vars 0).toNat).can := List.countP_mono_left fun x _ hx => (hc 0 (by omega) x).2 hx
    omega
  · have hk6 : r.kind ≠ 6 := by rcases hk with ⟨h | h, _⟩ | ⟨h | h | h, _⟩ <;> omega
    unfold THolds at hh
    rw [if_neg hk6] at hh
    rw [if_neg (by simp [hk6]), List.all_eq_true]
    intro e he
    have hh' := hh e (List.mem_range.1 he)
    unfold elemOk
    rw [List.any_eq_true]
    have hall : ∀ mask : Nat, (∀ i, i < r.vars.length → mask.testBit i = t i e) → allowedB (ofB b r.vars) e mask = true := fun mask hm => by
      unfold allowedB
      rw [List.all_eq_true]
      intro i hi
      have hi' : i < r.vars.length := by have := List.mem_range.1 hi; rwa [ofB_length] at this
      rw [bget_ofB _ _ _ hi', hm i hi']
      unfold allowedAt
      cases ht : t i e
      · simp only [Bool.false_eq_true, if_false, Bool.not_eq_true']
        cases hb : (bget b (iget r.vars i).toNat).inn.testBit e
        · rfl
        · rw [(hc i hi' e).1 hb] at ht; cases ht
      · simp only [if_true]
        exact (hc i hi' e).2 ht
    rcases hk with ⟨hk2, hl⟩ | ⟨_, hl⟩
    · refine ⟨mk3 (t 0 e) (t 1 e) false, List.mem_range.2 (by rw [ofB_length, hl]; exact mk3_lt2 _ _), ?_⟩
      have hm := mk3_bits (t 0 e) (t 1 e) false
      rw [Bool.and_eq_true]
      refine ⟨hall _ fun i hi => ?_, ?_⟩
      · have : i = 0 ∨ i = 1 := by omega
        rcases this with rfl | rfl
        · exact hm.1
        · exact hm.2.1
      · rw [hm.1, hm.2.1, asksB_two hk2 _ _ _ (t 2 e)]; exact hh'
    · refine ⟨mk3 (t 0 e) (t 1 e) (t 2 e), List.mem_range.2 (by rw [ofB_length, hl]; exact mk3_lt _ _ _), ?_⟩
      have hm := mk3_bits (t 0 e) (t 1 e) (t 2 e)
      rw [Bool.and_eq_true]
      refine ⟨hall _ fun i hi => ?_, ?_⟩
      · have : i = 0 ∨ i = 1 ∨ i = 2 := by omega
        rcases this with rfl | rfl | rfl
        · exact hm.1
        · exact hm.2.1
        · exact hm.2.2
      · rw [hm.1, hm.2.1, hm.2.2]; exact hh'
/-- a says at least what b says. -/
def Tight (a b : List Bnd) : Prop := ∀ v e, ((bget b v).inn.testBit e = true → (bget a v).inn.testBit e = true) ∧ ((bget a v).can.testBit e = true → (bget b v).can.testBit e = true)
theorem Tight.refl (a : List Bnd) : Tight a a := fun _ _ => ⟨id, id⟩
theorem Tight.trans {a b c : List Bnd} (h : Tight a b) (h' : Tight b c) : Tight a c := fun v e => ⟨fun x => (h v e).1 ((h' v e).1 x), fun x => (h' v e).2 ((h v e).2 x)⟩
theorem withB_bits (b : List Bnd) (v e : Nat) (inn : Bool) (hv : v < b.length) (i k : Nat) :
    (bget (withB b v e inn) i).inn.testBit k = ((bget b i).inn.testBit k || (inn && decide (i = v) && decide (k = e))) ∧ (bget (withB b v e inn) i).can.testBit k = ((bget b i).can.testBit k && !(!inn && decide (i = v) && decide (k = e))) := by
  rw [bget_withB _ _ _ _ hv]
  by_cases h : i = v
  · subst h
    rw [if_pos rfl]
    cases inn
    · simp only [Bool.false_eq_true, if_false, sDiff_testBit, bitN_testBit, eq_comm (a := e)]
      simp
    · simp only [if_true, sOr_testBit, bitN_testBit, eq_comm (a := e)]
      simp
  · rw [if_neg h]; simp [h]
theorem Tight.with (b : List Bnd) (v e : Nat) (inn : Bool) (hv : v < b.length) : Tight (withB b v e inn) b := fun i k => by
  have h := withB_bits b v e inn hv i k
  rw [h.1, h.2]
  exact ⟨fun x => by rw [x]; rfl, fun x => by rw [Bool.and_eq_true] at x; exact x.1⟩
theorem Tight.withs {a b : List Bnd} (h : Tight a b) {v e : Nat} {inn : Bool} (ha : v < a.length) (hb : v < b.length) : Tight (withB a v e inn) (withB b v e inn) := fun i k => by
  have h1 := withB_bits a v e inn ha i k
  have h2 := withB_bits b v e inn hb i k
  rw [h1.1, h1.2, h2.1, h2.2]
  refine ⟨fun x => ?_, fun x => ?_⟩
  · rw [Bool.or_eq_true] at x ⊢
    rcases x with x | x
    · exact .inl ((h i k).1 x)
    · exact .inr x
  · rw [Bool.and_eq_true] at x ⊢
    exact ⟨(h i k).2 x.1, x.2⟩
theorem poss_mono {a b : List Bnd} {r : Rl} (hf : RFine r) (hs : S12 a) (h : Tight a b) (hp : possB a r = true) : possB b r = true := by
  obtain ⟨t, h1, h2⟩ := poss_ex hf hs hp
  exact poss_of hf (fun i hi e => ⟨fun x => (h1 i hi e).1 ((h _ e).1 x), fun x => (h _ e).2 ((h1 i hi e).2 x)⟩) h2
theorem poss_split {b : List Bnd} {r : Rl} (hf : RFine r) (hs : S12 b) (hp : possB b r = true) {v e : Nat} (hv : v < b.length) : possB (withB b v e true) r = true ∨ possB (withB b v e false) r = true := by
  obtain ⟨t, h1, h2⟩ := poss_ex hf hs hp
  by_cases hm : ∃ i, i < r.vars.length ∧ (iget r.vars i).toNat = v
  · obtain ⟨i, hi, hiv⟩ := hm
    have hpos : ∀ k, k < r.vars.length → (iget r.vars k).toNat = v → k = i := fun k hk hkv => hf.dist k i hk hi (by
      have := hf.fit.2 k hk; have := hf.fit.2 i hi; omega)
    have key : ∀ x, t i e = x → possB (withB b v e x) r = true := fun x hx => poss_of hf (fun k hk e' => by
      have h := withB_bits b v e x hv (iget r.vars k).toNat e'
      rw [h.1, h.2]
      refine ⟨fun y => ?_, fun y => ?_⟩
      · rw [Bool.or_eq_true] at y
        rcases y with y | y
        · exact (h1 k hk e').1 y
        · simp only [Bool.and_eq_true, decide_eq_true_eq] at y
          rw [hpos k hk y.1.2, y.2, hx]; exact y.1.1
      · rw [Bool.and_eq_true]
        refine ⟨(h1 k hk e').2 y, ?_⟩
        simp only [Bool.not_eq_true', Bool.and_eq_false_iff, Bool.not_eq_false', decide_eq_false_iff_not]
        by_cases hkv : (iget r.vars k).toNat = v
        · by_cases hee : e' = e
          · left; left
            rw [hpos k hk hkv, hee, hx] at y; exact y
          · exact .inr hee
        · exact .inl (.inr hkv)) h2
    cases hx : t i e
    · exact .inr (key _ hx)
    · exact .inl (key _ hx)
  · have hm' : ∀ i, i < r.vars.length → (iget r.vars i).toNat ≠ v := fun i hi hh => hm ⟨i, hi, hh⟩
    exact .inl (poss_of hf (fun k hk e' => by
      have h := withB_bits b v e true hv (iget r.vars k).toNat e'
      rw [h.1, h.2]
      simp only [hm' k hk, decide_false, Bool.and_false, Bool.false_and, Bool.or_false, Bool.not_false, Bool.and_true]
      exact h1 k hk e') h2)
/-- Only the bounds of a rule's own variables count. -/
theorem poss_congr {a b : List Bnd} {r : Rl} (h : ∀ i, i < r.vars.length → bget a (iget r.vars i).toNat = bget b (iget r.vars i).toNat) : possB a r = possB b r := by
  unfold possB
  rw [show ofB a r.vars = ofB b r.vars from List.map_congr_left fun x hx => by
    obtain ⟨i, hi, rfl⟩ := List.mem_iff_getElem.1 hx
    have := h i hi
    rwa [show iget r.vars i = r.vars[i] by simp [iget, hi]] at this]
theorem rule_fine {r : Rl} {n : Nat} (h : ruleOk r n = true) (hn : n ≤ 8) : RFine r := by
  refine ⟨RFit.of_ok h (by omega), fun i j hi hj he => ?_, fun hk => ?_⟩
  · simp only [ruleOk, Bool.and_eq_true] at h
    have hv := h.1.2
    rw [List.all_eq_true] at hv
    have key : ∀ i j, i < j → j < r.vars.length → iget r.vars i = iget r.vars j → False := fun i j hij hj he => by
      have := hv j (List.mem_range.2 hj)
      unfold varOk at this
      rw [Bool.and_eq_true] at this
      have h2 : ihas (r.vars.take j) (iget r.vars j) = true := by
        unfold ihas
        rw [List.contains_iff_mem, ← he]
        have : iget r.vars i = (r.vars.take j)[i]'(by simp; omega) := by simp [iget, show i < r.vars.length by omega]
        rw [this]; exact List.getElem_mem _
      rw [h2] at this
      simp at this
    rcases Nat.lt_trichotomy i j with h1 | h1 | h1
    · exact (key i j h1 hj he).elim
    · exact h1
    · exact (key j i h1 hi he.symm).elim
  · simp only [ruleOk, Bool.and_eq_true] at h
    have hk2 := h.2
    rw [if_pos (by simp [hk])] at hk2
    rw [Bool.and_eq_true] at hk2
    have := hk2.2
    unfold inB at this
    simp only [Bool.and_eq_true, decide_eq_true_eq] at this
    exact this.1
theorem probOk_fine {p : Prob} (h : probOk p = true) : ∀ i, i < p.rules.length → RFine (rget p.rules i) := fun i hi => by
  simp only [probOk, Bool.and_eq_true, List.all_eq_true] at h
  have := h.2 p.rules[i] (List.getElem_mem hi)
  rw [show p.rules[i] = rget p.rules i by simp [rget, hi]] at this
  exact rule_fine this (by have := h.1.1.1; unfold inB at this; simp only [Bool.and_eq_true, decide_eq_true_eq] at this; omega)
end Go.Proofs.YtilbbnjfaoldoaaGreatDoor
