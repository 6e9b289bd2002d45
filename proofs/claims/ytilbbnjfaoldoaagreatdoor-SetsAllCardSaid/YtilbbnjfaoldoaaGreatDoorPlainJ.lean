/- What a propagation says holds for each solution; at its end nothing more follows. In plain Lean. -/
import Derived.Test.YtilbbnjfaoldoaaGreatDoorSoundC
import Derived.Test.YtilbbnjfaoldoaaGreatDoorPlainH
import Derived.Test.YtilbbnjfaoldoaaGreatDoorPlainD
namespace Go.Proofs.YtilbbnjfaoldoaaGreatDoor
open Go Go.RowKit

theorem nget_over {l : List Nat} (h : l.any over = false) (i : Nat) : nget l i < 4096 := by
  unfold nget
  by_cases hi : i < l.length
  · rw [List.getElem?_eq_getElem hi]
    rw [List.any_eq_false] at h
    have := h l[i] (List.getElem_mem hi)
    unfold over at this
    exact sDiff_small (by simpa using this)
  · rw [List.getElem?_eq_none (by omega)]; decide
theorem bget_sets (l : List Nat) (v : Nat) : bget (setsB l) v = ⟨nget l v, nget l v⟩ := by
  unfold setsB
  rw [bget_pad]
  unfold bget nget
  rw [List.getElem?_map]
  by_cases h : v < l.length
  · rw [List.getElem?_eq_getElem h]; rfl
  · rw [List.getElem?_eq_none (by omega)]; rfl
theorem betwB_get {b : List Bnd} {l : List Nat} (h : betwB b l = true) {i : Nat} (hi : i < b.length) : sDiff (bget b i).inn (nget l i) = 0 ∧ sDiff (nget l i) (bget b i).can = 0 := by
  unfold betwB at h
  have := List.all_eq_true.1 h i (List.mem_range.2 hi)
  unfold betwAt at this
  simpa using this
theorem s12_of_padJ {b : List Bnd} (h : S12 (padB b)) : S12 b := fun x hx => h x (by unfold padB; exact List.mem_append_left _ hx)
structure SolOk (p : Prob) (l : List Nat) : Prop where
  len : l.length = p.bounds.length
  low : l.any over = false
  rules : ∀ i, i < p.rules.length → possB (setsB l) (rget p.rules i) = true
  betw : betwB p.bounds l = true
theorem solves_ok {p : Prob} {l : List Nat} (h : solvesB p l = true) : probOk p = true ∧ SolOk p l := by
  unfold solvesB at h
  rw [Bool.and_eq_true, Bool.and_eq_true] at h
  obtain ⟨⟨hok, hr⟩, hb⟩ := h
  have hok' := hok
  unfold holdsOk at hok'
  rw [Bool.and_eq_true, Bool.and_eq_true, beq_iff_eq, Bool.not_eq_true'] at hok'
  refine ⟨hok'.1.1, by omega, hok'.2, fun i hi => ?_, hb⟩
  unfold holdsR at hr
  rw [hok, if_pos rfl, beq_iff_eq] at hr
  unfold holdsN at hr
  rcases idxOf_cases (fun i => !possB (setsB l) (rget p.rules i)) p.rules.length with h1 | ⟨k, h1, h2, h3⟩
  · cases hc : possB (setsB l) (rget p.rules i)
    · exfalso
      have : ∃ j, j < p.rules.length ∧ (!possB (setsB l) (rget p.rules j)) = true := ⟨i, hi, by rw [hc]; rfl⟩
      unfold idxOf at h1
      cases hf : (List.range p.rules.length).find? (fun i => !possB (setsB l) (rget p.rules i)) with
      | none =>
        have h2 := List.find?_eq_none.1 hf i (List.mem_range.2 hi)
        rw [hc] at h2; exact h2 rfl
      | some k => rw [hf] at h1; simp only at h1; omega
    · rfl
  · rw [h1, if_neg (by omega)] at hr
    omega
theorem sets_fix {p : Prob} {l : List Nat} (h : SolOk p l) : Fix p (setsB l) := fun j hj => ⟨h.rules j hj, fun v _ e he => by
  rw [bget_sets, openE_testBit] at he
  simp at he⟩
theorem sets_sub (l : List Nat) : Sub (setsB l) := fun v i h => by rw [bget_sets] at h ⊢; exact h
theorem sets_tight {p : Prob} {l : List Nat} (h : SolOk p l) : Tight (setsB l) (padB p.bounds) := fun v e => by
  rw [bget_sets, bget_pad]
  by_cases hv : v < p.bounds.length
  · have := betwB_get h.betw hv
    exact ⟨fun hi => sDiff_zero.1 (beq_iff_eq.2 this.1) e hi, fun hi => sDiff_zero.1 (beq_iff_eq.2 this.2) e hi⟩
  · have h1 : bget p.bounds v = default := by unfold bget; rw [List.getElem?_eq_none (by omega)]; rfl
    have h2 : nget l v = 0 := by unfold nget; rw [List.getElem?_eq_none (by have := h.len; omega)]; rfl
    rw [h1, h2]
    exact ⟨fun hi => by (have hi' : (0 : Nat).testBit e = true := hi; rw [Nat.zero_testBit] at hi'; cases hi'), fun hi => by (rw [Nat.zero_testBit] at hi; cases hi)⟩
theorem facts_fit {p : Prob} (hp : probOk p = true) {st : St} (h : FactsOk p st) : ∀ k, k < st.2.length → FitN p.bounds.length (fget st.2 k) := fun k hk => right_fit hp (h.all k hk).right
theorem take_bget {b : List Bnd} {n i : Nat} (h : i < n) : bget (b.take n) i = bget b i := by unfold bget; rw [List.getElem?_take, if_pos h]
/-- THE THEOREM, its first half. -/
theorem sound_sol {p : Prob} {l : List Nat} (h : solvesB p l = true) : (propR p).2 = -1 ∧ betwB ((propR p).1.1.take p.bounds.length) l = true ∧ ∀ k, k < (propR p).1.2.length → notSaid (propR p).1.2 l k = false := by
  obtain ⟨hp, hs⟩ := solves_ok h
  have hn8 := (probOk_fit hp).2.1
  have h8 : (setsB l).length = 8 := by unfold setsB; exact padB_length (by rw [List.length_map, hs.len]; exact hn8)
  have h12 : S12 (setsB l) := fun x hx => by
    obtain ⟨i, hi, rfl⟩ := List.mem_iff_getElem.1 hx
    have e1 : bget (setsB l) i = (setsB l)[i] := by simp [bget, hi]
    rw [← e1, bget_sets]
    exact ⟨nget_over hs.low i, nget_over hs.low i⟩
  have hin := run_inside (q := p) (rs := true) hp hp (fun i hi => ⟨i, hi, rfl⟩) (sets_fix hs) h12 (sets_sub l) h8 (Good.first hp) (sets_tight hs)
  have hfo : FactsOk p (propR p).1 := facts_ok hp
  have hg : Good p (propR p).1 := run_good hp true
  have ht : Tight (setsB l) (propR p).1.1 := hin.1
  have hlen : (propR p).1.1.length = 8 := hg.len
  refine ⟨hin.2, betwB_yes fun i hi => ?_, fun k hk => ?_⟩
  · have hin' : i < p.bounds.length := by simp at hi; omega
    unfold betwAt
    rw [take_bget hin', Bool.and_eq_true]
    exact ⟨sDiff_zero.2 fun e he => by have := (ht i e).1 he; rwa [bget_sets] at this, sDiff_zero.2 fun e he => by have := (ht i e).2; rw [bget_sets] at this; exact this he⟩
  · obtain ⟨v, e, hv, hvl, he, he12⟩ := facts_fit hp hfo k hk
    have hb := fold_bits (propR p).1.2 (padB p.bounds) (fun f hf => by rw [padB_length hn8]; exact ffit_var (list_fit hg.fit f hf)) v e
    have hrep : (propR p).1.1 = List.foldl stepF (padB p.bounds) (propR p).1.2 := hfo.eq
    rw [← hrep] at hb
    have hany : ((propR p).1.2.any fun f => hitF f v e (fget (propR p).1.2 k).inn) = true := List.any_eq_true.2 ⟨_, fget_mem hk, by unfold hitF; rw [hv, he]; simp⟩
    unfold notSaid bitB
    rw [hv, he]
    simp only [Int.toNat_natCast]
    cases hi : (fget (propR p).1.2 k).inn
    · rw [hi] at hany
      cases hx : (nget l v).testBit e
      · rfl
      · have := (ht v e).2 (by rw [bget_sets]; exact hx)
        rw [hb.2, hany] at this
        simp at this
    · rw [hi] at hany
      have := (ht v e).1 (by rw [hb.1, hany]; simp)
      rw [bget_sets] at this
      rw [show (nget l v).testBit e = true from this]; rfl
/-- The facts make the bounds. -/
theorem replay_pad (b : List Bnd) : ∀ (fs : List Fact), (∀ f ∈ fs, f.var.toNat < b.length) → replay (padB b) fs = padB (replay b fs)
  | [], _ => rfl
  | f :: fs, h => by
    have h1 := h f (by simp)
    have h2 : replay (padB b) (f :: fs) = replay (stepF (padB b) f) fs := rfl
    have h3 : replay b (f :: fs) = replay (stepF b f) fs := rfl
    rw [h2, h3, show stepF (padB b) f = padB (stepF b f) from padB_with _ _ h1]
    exact replay_pad (stepF b f) fs fun f' hf' => by rw [stepF_length]; exact h f' (by simp [hf'])
theorem replay_s12 : ∀ (fs : List Fact) (b : List Bnd), (∀ f ∈ fs, f.elem.toNat < 12) → S12 b → S12 (replay b fs)
  | [], _, _, h => h
  | f :: fs, b, hf, h => replay_s12 fs (stepF b f) (fun f' hf' => hf f' (by simp [hf'])) (h.with (hf f (by simp)) _)
theorem fit_elems {n : Nat} {fs : List Fact} (h : ∀ k, k < fs.length → FitN n (fget fs k)) : ∀ f ∈ fs, f.elem.toNat < 12 := fun f hf => by
  obtain ⟨i, hi, rfl⟩ := List.mem_iff_getElem.1 hf
  obtain ⟨v, e, _, _, he, he12⟩ := h i hi
  rw [show fget fs i = fs[i] by simp [fget, hi]] at he
  omega
structure SoundAt (p : Prob) (fs : List Fact) (fin : List Bnd) : Prop where
  fit : ∀ k, k < fs.length → FitN p.bounds.length (fget fs k)
  eq : replay p.bounds fs = fin
  len : fin.length = p.bounds.length
  s12 : S12 fin
  sub : Sub fin
  opn : ∀ k, k < fs.length → (openE (bget (replay p.bounds (fs.take k)) (fget fs k).var.toNat)).testBit (fget fs k).elem.toNat = true
theorem sound_at {p : Prob} (hp : probOk p = true) : SoundAt p (propR p).1.2 ((propR p).1.1.take p.bounds.length) ∧ padB ((propR p).1.1.take p.bounds.length) = (propR p).1.1 := by
  have hfo : FactsOk p (propR p).1 := facts_ok hp
  have hg : Good p (propR p).1 := run_good hp true
  have hn8 := (probOk_fit hp).2.1
  have hfit := facts_fit hp hfo
  have hvar : ∀ f ∈ (propR p).1.2, f.var.toNat < p.bounds.length := fun f hf => by
    obtain ⟨i, hi, rfl⟩ := List.mem_iff_getElem.1 hf
    obtain ⟨v, e, hv, hvl, _⟩ := hfit i hi
    rw [show fget (propR p).1.2 i = (propR p).1.2[i] by simp [fget, hi]] at hv
    omega
  have h1 : (propR p).1.1 = padB (replay p.bounds (propR p).1.2) := by
    rw [← replay_pad _ _ hvar]; exact hfo.eq
  have hl : (replay p.bounds (propR p).1.2).length = p.bounds.length := replay_length _ _
  have h2 : (propR p).1.1.take p.bounds.length = replay p.bounds (propR p).1.2 := by rw [h1, ← hl, padB_take]
  rw [h2]
  refine ⟨⟨hfit, rfl, hl, s12_of_padJ (by rw [← h1]; exact hg.s12), Sub.of_pad (by rw [← h1]; exact hg.sub), fun k hk => ?_⟩, h1.symm⟩
  have := (hfo.all k hk).opn
  rw [replay_pad _ _ (fun f hf => hvar f (List.mem_of_mem_take hf)), bget_pad] at this
  exact this
theorem replay_succ {b : List Bnd} {fs : List Fact} {k : Nat} (h : k < fs.length) : replay b (fs.take (k + 1)) = stepF (replay b (fs.take k)) (fget fs k) := by
  rw [List.take_succ_eq_append_getElem h, replay_append]
  simp [fget, h]
/-- The rule of a contradiction. -/
theorem prop_cases {p : Prob} (hp : probOk p = true) : (propR p).2 = -1 ∨ ∃ j : Nat, (propR p).2 = j ∧ j < p.rules.length := by
  rcases (runR_ind (rs := true) (I := fun _ => True) hp (fun _ _ _ _ _ _ _ => trivial) (Good.first hp) trivial).2 with h | ⟨j, h1, h2, _⟩
  · exact .inl h
  · exact .inr ⟨j, h1, h2⟩
/-- THE THEOREM, its second half: at the end nothing more follows. -/
theorem sound_end {p : Prob} (hp : probOk p = true) (h : (propR p).2 = -1) {j : Nat} (hj : j < p.rules.length) {v : Nat} (hv : (v : Int) ∈ (rget p.rules j).vars) {e : Nat} (he : e < 12) :
    probOk ⟨(propR p).1.1.take p.bounds.length, p.rules⟩ = true ∧ (∀ inn, askedOk ⟨(propR p).1.1.take p.bounds.length, p.rules⟩ ⟨v, e, inn, j, []⟩ = true) ∧
    askedR ⟨(propR p).1.1.take p.bounds.length, p.rules⟩ ⟨v, e, true, j, []⟩ = bitB (bget ((propR p).1.1.take p.bounds.length) v).inn e ∧
    askedR ⟨(propR p).1.1.take p.bounds.length, p.rules⟩ ⟨v, e, false, j, []⟩ = !bitB (bget ((propR p).1.1.take p.bounds.length) v).can e := by
  obtain ⟨hsa, hpad⟩ := sound_at hp
  have hg : Good p (propR p).1 := run_good hp true
  have hq : probOk ⟨(propR p).1.1.take p.bounds.length, p.rules⟩ = true := probOk_with hp hsa.len hsa.s12 hsa.sub
  have hfix : Fix p (propR p).1.1 := runR_fix hp (Good.first hp) h
  have hfo := hfix.follows hp hg.s12 hg.sub hg.len hj hv e
  have hok : ∀ inn, askedOk ⟨(propR p).1.1.take p.bounds.length, p.rules⟩ ⟨v, e, inn, j, []⟩ = true := fun inn => by
    unfold askedOk aboutB
    rw [hq]
    have h1 : inB (j : Int) 0 ((p.rules.length : Int) - 1) = true := by unfold inB; rw [Bool.and_eq_true, decide_eq_true_eq, decide_eq_true_eq]; omega
    have h2 : inB (e : Int) 0 11 = true := by unfold inB; rw [Bool.and_eq_true, decide_eq_true_eq, decide_eq_true_eq]; omega
    simp only [Int.toNat_natCast]
    rw [h1, h2]
    unfold ihas
    rw [List.contains_iff_mem.2 hv]; rfl
  have hbv : bget (propR p).1.1 v = bget ((propR p).1.1.take p.bounds.length) v := by have := bget_pad ((propR p).1.1.take p.bounds.length) v; rwa [hpad] at this
  refine ⟨hq, hok, ?_, ?_⟩
  · unfold askedR followsB
    rw [hok true]
    simp only [Int.toNat_natCast, Bool.true_and, Bool.not_true]
    rw [hpad, hfo.1, Bool.not_not, hbv]; rfl
  · unfold askedR followsB
    rw [hok false]
    simp only [Int.toNat_natCast, Bool.true_and, Bool.not_false]
    rw [hpad, hfo.2, hbv]; rfl
end Go.Proofs.YtilbbnjfaoldoaaGreatDoor
