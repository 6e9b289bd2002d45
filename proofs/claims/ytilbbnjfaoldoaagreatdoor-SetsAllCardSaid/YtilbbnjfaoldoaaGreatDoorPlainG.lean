/- The facts of a propagation: they are a proof, none of their reasons can be left out, and they make the bounds. In plain Lean. -/
import Derived.Test.YtilbbnjfaoldoaaGreatDoorPlainF
import Derived.Test.YtilbbnjfaoldoaaGreatDoorRefM
namespace Go.Proofs.YtilbbnjfaoldoaaGreatDoor
open Go Go.RowKit

def stepF (b : List Bnd) (f : Fact) : List Bnd := withB b f.var.toNat f.elem.toNat f.inn
def replay (b : List Bnd) (fs : List Fact) : List Bnd := fs.foldl stepF b
/-- A fact says that. -/
def hitF (f : Fact) (v e : Nat) (x : Bool) : Bool := decide (f.var.toNat = v) && decide (f.elem.toNat = e) && (f.inn == x)
theorem replay_append (b : List Bnd) (fs : List Fact) (f : Fact) : replay b (fs ++ [f]) = stepF (replay b fs) f := by unfold replay; rw [List.foldl_append]; rfl
theorem stepF_length (b : List Bnd) (f : Fact) : (stepF b f).length = b.length := withB_length _ _ _ _
theorem replay_length (b : List Bnd) : ∀ fs, (replay b fs).length = b.length := fun fs => by
  unfold replay
  induction fs generalizing b with
  | nil => rfl
  | cons f fs ih => rw [List.foldl_cons, ih, stepF_length]
theorem stepF_bits {b : List Bnd} {f : Fact} (hf : f.var.toNat < b.length) (v e : Nat) :
    (bget (stepF b f) v).inn.testBit e = ((bget b v).inn.testBit e || hitF f v e true) ∧ (bget (stepF b f) v).can.testBit e = ((bget b v).can.testBit e && !hitF f v e false) := by
  have h := withB_bits b f.var.toNat f.elem.toNat f.inn hf v e
  unfold stepF
  rw [h.1, h.2]
  unfold hitF
  rw [show decide (v = f.var.toNat) = decide (f.var.toNat = v) from decide_eq_decide.2 eq_comm, show decide (e = f.elem.toNat) = decide (f.elem.toNat = e) from decide_eq_decide.2 eq_comm]
  cases f.inn <;> simp
theorem fold_bits : ∀ (fs : List Fact) (b : List Bnd), (∀ f ∈ fs, f.var.toNat < b.length) → ∀ v e,
    (bget (fs.foldl stepF b) v).inn.testBit e = ((bget b v).inn.testBit e || fs.any fun f => hitF f v e true) ∧ (bget (fs.foldl stepF b) v).can.testBit e = ((bget b v).can.testBit e && !fs.any fun f => hitF f v e false)
  | [], b, _, v, e => by simp
  | f :: fs, b, h, v, e => by
    have h1 := stepF_bits (h f (by simp)) v e
    have h2 := fold_bits fs (stepF b f) (fun f' hf' => by rw [stepF_length]; exact h f' (by simp [hf'])) v e
    rw [List.foldl_cons, h2.1, h2.2, h1.1, h1.2, List.any_cons, List.any_cons, Bool.or_assoc, Bool.not_or, Bool.and_assoc]
    exact ⟨rfl, rfl⟩
theorem whyB_fold (l : List Fact) (b : List Bnd) (ws : List Int) : whyB l b ws = (ws.map fun k => fget l k.toNat).foldl stepF b := by
  unfold whyB
  rw [List.foldl_map]; rfl
/-- Numbers of facts. -/
def NumsB (l : List Fact) (ws : List Int) : Prop := ∀ x ∈ ws, ∃ k : Nat, x = k ∧ k < l.length
theorem fget_mem {l : List Fact} {k : Nat} (h : k < l.length) : fget l k ∈ l := by unfold fget; rw [List.getElem?_eq_getElem h]; exact List.getElem_mem h
theorem ffit_var {f : Fact} (h : FFit f) : f.var.toNat < 8 := by obtain ⟨v, e, h1, h2, _⟩ := h; omega
theorem map_fit {l : List Fact} (hl : ∀ i, i < l.length → FFit (fget l i)) {ws : List Int} (hn : NumsB l ws) : ∀ f ∈ ws.map (fun k => fget l k.toNat), f ∈ l ∧ f.var.toNat < 8 := by
  intro f hf
  obtain ⟨x, hx, rfl⟩ := List.mem_map.1 hf
  obtain ⟨k, rfl, hk⟩ := hn x hx
  rw [Int.toNat_natCast]
  exact ⟨fget_mem hk, ffit_var (hl k hk)⟩
theorem list_fit {l : List Fact} (hl : ∀ i, i < l.length → FFit (fget l i)) : ∀ f ∈ l, FFit f := by
  intro f hf
  obtain ⟨i, hi, rfl⟩ := List.mem_iff_getElem.1 hf
  have := hl i hi
  rwa [show fget l i = l[i] by simp [fget, hi]] at this
theorem tight_fold {b : List Bnd} (h8 : b.length = 8) {fs gs : List Fact} (hf : ∀ f ∈ fs, f.var.toNat < 8) (hs : ∀ f ∈ gs, f ∈ fs) : Tight (fs.foldl stepF b) (gs.foldl stepF b) := by
  intro v e
  have h1 := fold_bits fs b (fun f h => by rw [h8]; exact hf f h) v e
  have h2 := fold_bits gs b (fun f h => by rw [h8]; exact hf f (hs f h)) v e
  rw [h1.1, h1.2, h2.1, h2.2]
  have hany : ∀ x, (gs.any fun f => hitF f v e x) = true → (fs.any fun f => hitF f v e x) = true := fun x hx => by
    obtain ⟨f, hf, hh⟩ := List.any_eq_true.1 hx
    exact List.any_eq_true.2 ⟨f, hs f hf, hh⟩
  refine ⟨fun x => ?_, fun x => ?_⟩
  · rw [Bool.or_eq_true] at x ⊢
    rcases x with x | x
    · exact .inl x
    · exact .inr (hany true x)
  · rw [Bool.and_eq_true] at x ⊢
    refine ⟨x.1, ?_⟩
    cases hg : gs.any fun f => hitF f v e false
    · rfl
    · rw [hany false hg] at x; exact absurd x.2 (by decide)
theorem Tight.s12 {a b : List Bnd} (h : ∀ x ∈ a, True) (hs : S12 b) : True := trivial
theorem clash_tight {a b : List Bnd} (h : Tight a b) (ha : Sub a) : clashB b = false := by
  unfold clashB
  rw [List.any_eq_false]
  intro x hx
  obtain ⟨i, hi, rfl⟩ := List.mem_iff_getElem.1 hx
  unfold clashAt
  have e1 : bget b i = b[i] := by simp [bget, hi]
  rw [← e1]
  simp only [Bool.not_eq_true, Bool.not_eq_false']
  exact sDiff_zero.2 fun e he => (h i e).2 (ha i e ((h i e).1 he))
theorem clash_mono {a b : List Bnd} (h : Tight a b) (hl : a.length = b.length) (hc : clashB b = true) : clashB a = true := by
  cases ha : clashB a
  · have hsub : Sub a := fun i e he => by
      by_cases hi : i < a.length
      · unfold clashB at ha
        rw [List.any_eq_false] at ha
        have := ha a[i] (List.getElem_mem hi)
        unfold clashAt at this
        simp only [Bool.not_eq_true, Bool.not_eq_false'] at this
        have e1 : bget a i = a[i] := by simp [bget, hi]
        rw [e1] at he ⊢
        exact sDiff_zero.1 this e he
      · unfold bget at he
        rw [List.getElem?_eq_none (by omega)] at he
        exact absurd he (by show ¬ (0 : Nat).testBit e = true; rw [Nat.zero_testBit]; decide)
    rw [clash_tight h hsub] at hc; cases hc
  · rfl
theorem whyB_s12n {l : List Fact} (hl : ∀ i, i < l.length → FFit (fget l i)) {ws : List Int} (hn : NumsB l ws) {b : List Bnd} (h8 : b.length = 8) (hs : S12 b) : (whyB l b ws).length = 8 ∧ S12 (whyB l b ws) :=
  whyB_fit hl ws b (fun i hi => NatsB.get hn i hi) h8 hs
theorem expl_def (p : Prob) (l : List Fact) (f : Fact) : explB p l f = (clashB (whyB l (padB p.bounds) f.why) || !possB (withB (whyB l (padB p.bounds) f.why) f.var.toNat f.elem.toNat (!f.inn)) (rget p.rules f.rule.toNat)) := rfl
/-- What more facts explain. -/
theorem expl_mono {p : Prob} (hp : probOk p = true) {l : List Fact} (hl : ∀ i, i < l.length → FFit (fget l i)) {f : Fact} (hf : FFit f) {j : Nat} (hj : f.rule = j) (hjl : j < p.rules.length) {ws us : List Int} (hw : NumsB l ws) (hs : ∀ x ∈ us, x ∈ ws)
    (h : explB p l { f with why := us } = true) : explB p l { f with why := ws } = true := by
  have h8 : (padB p.bounds).length = 8 := padB_length (probOk_fit hp).2.1
  have h12 : S12 (padB p.bounds) := (probOk_fit hp).2.2.2.2.pad
  have hu : NumsB l us := fun x hx => hw x (hs x hx)
  have ht : Tight (whyB l (padB p.bounds) ws) (whyB l (padB p.bounds) us) := by
    rw [whyB_fold, whyB_fold]
    refine tight_fold h8 (fun f hf => (map_fit hl hw f hf).2) fun f hf => ?_
    obtain ⟨x, hx, rfl⟩ := List.mem_map.1 hf
    exact List.mem_map.2 ⟨x, hs x hx, rfl⟩
  have w1 := whyB_s12n hl hw h8 h12
  have u1 := whyB_s12n hl hu h8 h12
  rw [expl_def, Bool.or_eq_true] at h ⊢
  dsimp only at h ⊢
  rcases h with h | h
  · exact .inl (clash_mono ht (by rw [w1.1, u1.1]) h)
  · right
    obtain ⟨v, e, hv, hv8, he, he12⟩ := hf
    rw [hv, he, hj] at h ⊢
    simp only [Int.toNat_natCast] at h ⊢
    simp only [Bool.not_eq_true'] at h ⊢
    cases hc : possB (withB (whyB l (padB p.bounds) ws) v e (!f.inn)) (rget p.rules j)
    · rfl
    · rw [poss_mono (probOk_fine hp j hjl) (w1.2.with he12 _) (ht.withs (by rw [w1.1]; exact hv8) (by rw [u1.1]; exact hv8)) hc] at h; cases h
theorem erase_erase {ws : List Int} {i k : Nat} (h : i ≤ k) : (ws.eraseIdx i).eraseIdx k = (ws.eraseIdx (k + 1)).eraseIdx i := by
  apply List.ext_getElem?
  intro n
  simp only [List.getElem?_eraseIdx]
  by_cases h1 : n < i
  · rw [if_pos (by omega), if_pos h1, if_pos h1, if_pos (by omega)]
  · by_cases h2 : n < k
    · rw [if_pos h2, if_neg h1, if_neg h1, if_pos (by omega)]
    · rw [if_neg h2, if_neg (by omega), if_neg h1, if_neg (by omega)]
theorem whyRed_ok {p : Prob} {l : List Fact} {f : Fact} : ∀ (i : Nat) (ws : List Int), explB p l { f with why := ws } = true → explB p l { f with why := whyRed p l f i ws } = true
  | 0, _, h => h
  | i + 1, ws, h => by
    unfold whyRed
    refine whyRed_ok i _ ?_
    split
    · assumption
    · exact h
theorem whyRed_sub {p : Prob} {l : List Fact} {f : Fact} : ∀ (i : Nat) (ws : List Int), List.Sublist (whyRed p l f i ws) ws
  | 0, ws => List.Sublist.refl _
  | i + 1, ws => by
    unfold whyRed
    refine (whyRed_sub i _).trans ?_
    split
    · exact List.eraseIdx_sublist _ _
    · exact List.Sublist.refl _
theorem whyRed_least {p : Prob} (hp : probOk p = true) {l : List Fact} (hl : ∀ i, i < l.length → FFit (fget l i)) {f : Fact} (hf : FFit f) {j : Nat} (hj : f.rule = j) (hjl : j < p.rules.length) : ∀ (i : Nat) (ws : List Int), NumsB l ws → (∀ k, i ≤ k → k < ws.length → explB p l { f with why := ws.eraseIdx k } = false) →
    ∀ k, k < (whyRed p l f i ws).length → explB p l { f with why := (whyRed p l f i ws).eraseIdx k } = false
  | 0, ws, _, h => fun k hk => h k (Nat.zero_le _) hk
  | i + 1, ws, hn, h => by
    unfold whyRed
    refine whyRed_least hp hl hf hj hjl i _ ?_ ?_
    · split
      · exact fun x hx => hn x (List.mem_of_mem_eraseIdx hx)
      · exact hn
    · intro k hk hkl
      cases hx : explB p l { f with why := ws.eraseIdx i }
      · rw [hx] at hkl
        simp only [Bool.false_eq_true, if_false] at hkl ⊢
        by_cases hki : k = i
        · subst hki; exact hx
        · exact h k (by omega) hkl
      · rw [hx] at hkl
        simp only [if_true] at hkl ⊢
        have hil : i < ws.length ∨ ws.length ≤ i := Nat.lt_or_ge _ _
        cases hy : explB p l { f with why := (ws.eraseIdx i).eraseIdx k }
        · rfl
        · exfalso
          rcases hil with hil | hil
          · have hlen : (ws.eraseIdx i).length = ws.length - 1 := List.length_eraseIdx_of_lt hil
            rw [erase_erase hk] at hy
            have h1 := h (k + 1) (by omega) (by omega)
            rw [expl_mono hp hl hf hj hjl (ws := ws.eraseIdx (k + 1)) (fun x hx => hn x (List.mem_of_mem_eraseIdx hx)) (fun x hx => List.mem_of_mem_eraseIdx hx) hy] at h1
            cases h1
          · rw [List.eraseIdx_of_length_le hil] at hkl
            omega
theorem why0_mem {p : Prob} {l : List Fact} {j : Nat} : ∀ n x, x ∈ why0 p l j n → ∃ k : Nat, x = k ∧ k < n
  | 0, _, h => by cases h
  | n + 1, x, h => by
    unfold why0 at h
    split at h
    · rcases List.mem_append.1 h with h1 | h1
      · obtain ⟨k, e, hk⟩ := why0_mem n x h1; exact ⟨k, e, by omega⟩
      · exact ⟨n, List.mem_singleton.1 h1, by omega⟩
    · obtain ⟨k, e, hk⟩ := why0_mem n x h; exact ⟨k, e, by omega⟩
theorem why0_asc {p : Prob} {l : List Fact} {j : Nat} : ∀ n, (why0 p l j n).Pairwise (· < ·)
  | 0 => List.Pairwise.nil
  | n + 1 => by
    unfold why0
    split
    · rw [List.pairwise_append]
      refine ⟨why0_asc n, by simp, fun x hx y hy => ?_⟩
      obtain ⟨k, rfl, hk⟩ := why0_mem n x hx
      rw [List.mem_singleton.1 hy]
      omega
    · exact why0_asc n
theorem whyOk_of {n : Nat} {ws : List Int} (hp : ws.Pairwise (· < ·)) (hn : ∀ x ∈ ws, ∃ k : Nat, x = k ∧ k < n) : whyOk n ws = true := by
  refine whyOk_yes fun i hi => ?_
  unfold whyAt
  obtain ⟨k, hk, hkn⟩ := hn ws[i] (List.getElem_mem hi)
  have hg : iget ws i = k := by rw [← hk]; simp [iget, hi]
  rw [hg, Bool.and_eq_true]
  refine ⟨by unfold inB; rw [Bool.and_eq_true, decide_eq_true_eq, decide_eq_true_eq]; omega, ?_⟩
  by_cases h0 : 0 < i
  · have h1 := List.pairwise_iff_getElem.1 hp (i - 1) i (by omega) hi (by omega)
    rw [show ws[i - 1] = iget ws (i - 1) by simp [iget, show i - 1 < ws.length by omega], hk] at h1
    rw [decide_eq_true h0, decide_eq_false (by omega)]; rfl
  · rw [decide_eq_false h0]; rfl
/-- The facts about a rule's variables make all that its bounds say. -/
theorem why0_bounds {p : Prob} {b : List Bnd} (h8 : b.length = 8) {l : List Fact} (hl : ∀ i, i < l.length → FFit (fget l i)) {j : Nat} (hr : RFit (rget p.rules j)) : ∀ n, n ≤ l.length → ∀ v ∈ (rget p.rules j).vars, bget (whyB l b (why0 p l j n)) v.toNat = bget (replay b (l.take n)) v.toNat
  | 0, _, v, _ => rfl
  | n + 1, hn, v, hv => by
    have ih := why0_bounds h8 hl hr n (by omega) v hv
    obtain ⟨u, e, hu, hu8, he, _⟩ := hl n (by omega)
    have hv0 := hr.mem v hv
    have htk : l.take (n + 1) = l.take n ++ [fget l n] := by
      rw [List.take_succ_eq_append_getElem (by omega)]
      simp [fget, show n < l.length by omega]
    rw [htk, replay_append]
    unfold stepF
    have hrl : (replay b (l.take n)).length = 8 := by rw [replay_length, h8]
    cases hh : ihas (rget p.rules j).vars (fget l n).var
    · rw [why0_succ_no hh, ih, bget_withB _ _ _ _ (by rw [hrl, hu]; omega), if_neg]
      intro hc
      rw [hu, Int.toNat_natCast] at hc
      have : v = (fget l n).var := by rw [hu]; omega
      rw [← this] at hh
      unfold ihas at hh
      rw [List.contains_iff_mem.2 hv] at hh; cases hh
    · have hm : (fget l n).var ∈ (rget p.rules j).vars := by unfold ihas at hh; exact List.contains_iff_mem.1 hh
      have ihu := why0_bounds h8 hl hr n (by omega) _ hm
      have hwl : (whyB l b (why0 p l j n)).length = 8 := by
        rw [whyB_fold]; exact (replay_length b _).trans h8
      rw [why0_succ_yes hh]
      have : whyB l b (why0 p l j n ++ [(n : Int)]) = withB (whyB l b (why0 p l j n)) (fget l n).var.toNat (fget l n).elem.toNat (fget l n).inn := by
        unfold whyB; rw [List.foldl_append]; rfl
      rw [this, bget_withB _ _ _ _ (by rw [hwl, hu]; omega), bget_withB _ _ _ _ (by rw [hrl, hu]; omega)]
      by_cases hc : v.toNat = (fget l n).var.toNat
      · rw [if_pos hc, if_pos hc, ihu]
      · rw [if_neg hc, if_neg hc, ih]
/-- What is true of each fact of a propagation. -/
structure FactOk (p : Prob) (l : List Fact) (f : Fact) : Prop where
  right : rightB p l f = true
  opn : (openE (bget (replay (padB p.bounds) l) f.var.toNat)).testBit f.elem.toNat = true
  least : ∀ k, k < f.why.length → rightB p l { f with why := f.why.eraseIdx k } = false
  other : rightB p l { f with inn := !f.inn } = false
structure FactsOk (p : Prob) (st : St) : Prop where
  eq : st.1 = replay (padB p.bounds) st.2
  all : ∀ i, i < st.2.length → FactOk p (st.2.take i) (fget st.2 i)
theorem rightB_no {p : Prob} {l : List Fact} {f : Fact} (h : explB p l f = false) : rightB p l f = false := by unfold rightB; rw [h, Bool.and_false]
theorem FactsOk.step {p : Prob} (hp : probOk p = true) {j v e : Nat} {st : St} {inn : Bool} (hh : StepH p j v e st inn) (h : FactsOk p st) : FactsOk p (stepE p true j v st e) := by
  have h8 : (padB p.bounds).length = 8 := padB_length (probOk_fit hp).2.1
  have h12 : S12 (padB p.bounds) := (probOk_fit hp).2.2.2.2.pad
  have hv8 : v < st.1.length := by rw [hh.good.len]; exact hh.var
  rw [stepE_some hh.try_]
  simp only [if_true]
  have hl : ∀ i, i < st.2.length → FFit (fget st.2 i) := hh.good.fit
  have hff : ∀ ws, FFit ⟨v, e, inn, j, ws⟩ := fun ws => ⟨v, e, rfl, hh.var, rfl, hh.elem⟩
  have hn0 : NumsB st.2 (why0 p st.2 j st.2.length) := fun x hx => why0_mem _ x hx
  have hbnd : ∀ u ∈ (rget p.rules j).vars, bget (whyB st.2 (padB p.bounds) (why0 p st.2 j st.2.length)) u.toNat = bget st.1 u.toNat := fun u hu => by
    rw [why0_bounds h8 hl ((probOk_fit hp).2.2.2.1 j hh.rule) _ (Nat.le_refl _) u hu, List.take_length, ← h.eq]
  have hwl := whyB_s12n hl hn0 h8 h12
  have hposs : ∀ x, possB (withB (whyB st.2 (padB p.bounds) (why0 p st.2 j st.2.length)) v e x) (rget p.rules j) = possB (withB st.1 v e x) (rget p.rules j) := fun x => poss_congr fun i hi => by
    have hm : iget (rget p.rules j).vars i ∈ (rget p.rules j).vars := by rw [show iget (rget p.rules j).vars i = (rget p.rules j).vars[i] by simp [iget, hi]]; exact List.getElem_mem hi
    have hvv := hbnd _ hh.has
    rw [Int.toNat_natCast] at hvv
    rw [bget_withB _ _ _ _ (by rw [hwl.1]; exact hh.var), bget_withB _ _ _ _ hv8, hvv, hbnd _ hm]
  have hno : possB (withB st.1 v e (!inn)) (rget p.rules j) = false := by
    cases inn
    · exact (tryE_false hh.try_).2
    · exact tryE_true hh.try_
  obtain ⟨W, hW⟩ : ∃ W, W = whyOf p st.2 ⟨v, e, inn, j, []⟩ := ⟨_, rfl⟩
  have hWd : W = whyRed p st.2 ⟨v, e, inn, j, []⟩ (why0 p st.2 j st.2.length).length (why0 p st.2 j st.2.length) := by rw [hW]; rfl
  have hx0 : explB p st.2 ⟨v, e, inn, j, why0 p st.2 j st.2.length⟩ = true := by
    rw [expl_def]
    simp only [Int.toNat_natCast]
    rw [hposs, hno]; simp
  have hxW : explB p st.2 ⟨v, e, inn, j, W⟩ = true := by
    rw [hWd]; exact whyRed_ok (f := ⟨v, e, inn, j, []⟩) _ _ hx0
  have hsub : List.Sublist W (why0 p st.2 j st.2.length) := by rw [hWd]; exact whyRed_sub _ _
  have hnW : NumsB st.2 W := fun x hx => hn0 x (hsub.subset hx)
  have hab : ∀ i ws, aboutB p ⟨v, e, i, j, ws⟩ = true := fun i ws => by
    unfold aboutB
    have h1 : inB (j : Int) 0 ((p.rules.length : Int) - 1) = true := by unfold inB; rw [Bool.and_eq_true, decide_eq_true_eq, decide_eq_true_eq]; have := hh.rule; omega
    have h2 : inB (e : Int) 0 11 = true := by unfold inB; rw [Bool.and_eq_true, decide_eq_true_eq, decide_eq_true_eq]; have := hh.elem; omega
    simp only [Int.toNat_natCast]
    rw [h1, h2]
    unfold ihas
    rw [List.contains_iff_mem.2 hh.has]; rfl
  have hopn := hh.opn
  rw [h.eq, openE_testBit] at hopn
  have hbits := fold_bits st.2 (padB p.bounds) (fun f hf => by rw [h8]; exact ffit_var (list_fit hl f hf)) v e
  have hbits' : (bget (replay (padB p.bounds) st.2) v).inn.testBit e = _ ∧ (bget (replay (padB p.bounds) st.2) v).can.testBit e = _ := hbits
  rw [hbits'.1, hbits'.2, Bool.and_eq_true, Bool.and_eq_true, Bool.not_eq_true', Bool.not_eq_true', Bool.or_eq_false_iff] at hopn
  have hdup : ∀ i ws, dupF st.2 ⟨v, e, i, j, ws⟩ = false := fun i ws => dupF_no fun k hk => by
    cases hs : sameF (fget st.2 k) ⟨v, e, i, j, ws⟩
    · rfl
    · exfalso
      unfold sameF at hs
      simp only [Bool.and_eq_true, beq_iff_eq] at hs
      have hit : hitF (fget st.2 k) v e i = true := by
        unfold hitF
        rw [hs.1.1, hs.1.2, hs.2]; simp
      have hany : (st.2.any fun f => hitF f v e i) = true := List.any_eq_true.2 ⟨_, fget_mem hk, hit⟩
      cases i
      · rw [hopn.1.2] at hany; cases hany
      · rw [hopn.2.2] at hany; cases hany
  have hnew : FactOk p st.2 ⟨v, e, inn, j, W⟩ := by
    refine ⟨?_, ?_, fun k hk => ?_, ?_⟩
    · unfold rightB
      rw [hab, hdup, whyOk_of ((why0_asc _).sublist hsub) hnW, hxW]; rfl
    · show (openE (bget (replay (padB p.bounds) st.2) (v : Int).toNat)).testBit (e : Int).toNat = true
      rw [← h.eq]; exact hh.opn
    · refine rightB_no ?_
      have hk' : k < (whyRed p st.2 ⟨v, e, inn, j, []⟩ (why0 p st.2 j st.2.length).length (why0 p st.2 j st.2.length)).length := by rw [← hWd]; exact hk
      have := whyRed_least hp hl (f := ⟨v, e, inn, j, []⟩) (hff []) (j := j) rfl hh.rule (why0 p st.2 j st.2.length).length (why0 p st.2 j st.2.length) hn0 (fun k h1 h2 => by omega) k hk'
      rw [← hWd] at this
      exact this
    · refine rightB_no ?_
      have hw := whyB_s12n hl hnW h8 h12
      have ht : Tight st.1 (whyB st.2 (padB p.bounds) W) := by
        rw [h.eq, whyB_fold]
        exact tight_fold h8 (fun f hf => ffit_var (list_fit hl f hf)) fun f hf => (map_fit hl hnW f hf).1
      rw [expl_def]
      simp only [Int.toNat_natCast, Bool.not_not]
      rw [clash_tight ht hh.good.sub, poss_mono (probOk_fine hp j hh.rule) (hh.good.s12.with hh.elem inn) (ht.withs hv8 (by rw [hw.1]; exact hh.var)) (hh.poss_next hp)]; rfl
  rw [← hW]
  refine ⟨?_, fun i hi => ?_⟩
  · show withB st.1 v e inn = replay (padB p.bounds) (st.2 ++ [⟨v, e, inn, j, W⟩])
    rw [replay_append, ← h.eq]
    unfold stepF
    simp only [Int.toNat_natCast]
  · show FactOk p ((st.2 ++ [(⟨v, e, inn, j, W⟩ : Fact)]).take i) (fget (st.2 ++ [⟨v, e, inn, j, W⟩]) i)
    have hi' : i < st.2.length + 1 := by simpa using hi
    rw [fget_snoc]
    by_cases hlt : i < st.2.length
    · rw [if_pos hlt, List.take_append_of_le_length (by omega)]
      exact h.all i hlt
    · have hie : i = st.2.length := by omega
      subst hie
      rw [if_neg hlt, if_pos rfl, List.take_left]
      exact hnew
theorem facts_ok {p : Prob} (hp : probOk p = true) : FactsOk p (runR p true (padB p.bounds, [])).1 :=
  (runR_ind (rs := true) (I := FactsOk p) hp (fun _ _ _ _ _ hh h => FactsOk.step hp hh h) (Good.first hp) ⟨rfl, fun i hi => absurd hi (Nat.not_lt_zero _)⟩).1
theorem run_good {p : Prob} (hp : probOk p = true) (rs : Bool) : Good p (runR p rs (padB p.bounds, [])).1 := (Good.run (rs := rs) (probOk_fit hp).2.2.2.1 _ (Good.first hp)).1
/-- The facts of a propagation are a proof. -/
theorem facts_proof {p : Prob} (hp : probOk p = true) : verI p (runR p true (padB p.bounds, [])).1.2 = -1 := by
  unfold verI
  exact idxOf_none fun i hi => by rw [((facts_ok hp).all i hi).right]; rfl
end Go.Proofs.YtilbbnjfaoldoaaGreatDoor
