/- All solutions by going through all sets: sorted, they are the search's. In plain Lean. -/
import Derived.Test.YtilbbnjfaoldoaaGreatDoorPlainO
import Derived.Test.YtilbbnjfaoldoaaGreatDoorBH
import Derived.Shelf.SlSortCmp.Insertion
namespace Go.Proofs.YtilbbnjfaoldoaaGreatDoor
open Go Go.RowKit Go.Sort

/-- The order of rows of sets. -/
def cmpL : List Nat → List Nat → Int
  | [], [] => 0
  | [], _ :: _ => -1
  | _ :: _, [] => 1
  | a :: x, b :: y => if a < b then -1 else if b < a then 1 else cmpL x y
theorem cmpL_lt : ∀ x y, cmpL x y < 0 ↔ x < y
  | [], [] => by unfold cmpL; simp
  | [], _ :: _ => by unfold cmpL; simp
  | _ :: _, [] => by unfold cmpL; simp
  | a :: x, b :: y => by
    unfold cmpL
    rw [List.cons_lt_cons_iff]
    by_cases h1 : a < b
    · simp [h1]
    · rw [if_neg h1]
      by_cases h2 : b < a
      · rw [if_pos h2]
        have h3 : ¬ a = b := by omega
        simp [h1, h3]
      · rw [if_neg h2, cmpL_lt x y]
        have h3 : a = b := by omega
        simp [h3]
theorem ltL (x y : List Nat) : ltOf cmpL x y = decide (x < y) := by
  unfold ltOf
  rw [decide_eq_decide]
  exact cmpL_lt x y
theorem swoL : SWO (ltOf cmpL) where
  irrefl x := by rw [ltL, decide_eq_false_iff_not]; exact List.lt_irrefl x
  trans x y z h1 h2 := by
    rw [ltL, decide_eq_true_eq] at *
    exact List.lt_trans h1 h2
  ntrans x y z h1 h2 := by
    rw [ltL, decide_eq_false_iff_not, List.not_lt] at *
    exact List.le_trans h2 h1
theorem totL (x y : List Nat) (h1 : ltOf cmpL x y = false) (h2 : ltOf cmpL y x = false) : x = y := by
  rw [ltL, decide_eq_false_iff_not, List.not_lt] at h1 h2
  exact List.le_antisymm h2 h1
def lexLe (x y : List Nat) : Bool := !ltOf cmpL y x
def sortL (l : List (List Nat)) : List (List Nat) := l.mergeSort lexLe
theorem lexLe_trans (a b c : List Nat) (h1 : lexLe a b = true) (h2 : lexLe b c = true) : lexLe a c = true := by
  unfold lexLe at *
  rw [Bool.not_eq_true'] at *
  exact swoL.ntrans _ _ _ h2 h1
theorem lexLe_total (a b : List Nat) : (lexLe a b || lexLe b a) = true := by
  unfold lexLe
  rw [ltL, ltL]
  by_cases h : b < a
  · have h' : ¬ a < b := List.lt_asymm h
    simp [h']
  · simp [h]
theorem lexLe_anti (a b : List Nat) (h1 : lexLe a b = true) (h2 : lexLe b a = true) : a = b := by
  unfold lexLe at *
  rw [Bool.not_eq_true'] at *
  exact totL _ _ h2 h1
theorem sortL_perm {l l' : List (List Nat)} (h : l.Perm l') : sortL l = sortL l' :=
  List.Perm.eq_of_pairwise (le := fun a b => lexLe a b = true) (fun a b _ _ h1 h2 => lexLe_anti a b h1 h2) (List.pairwise_mergeSort lexLe_trans lexLe_total l) (List.pairwise_mergeSort lexLe_trans lexLe_total l') (((List.mergeSort_perm l lexLe).trans h).trans (List.mergeSort_perm l' lexLe).symm)
theorem sortL_length (l : List (List Nat)) : (sortL l).length = l.length := (List.mergeSort_perm l lexLe).length_eq
theorem sortL_mem {l : List (List Nat)} {x : List Nat} : x ∈ sortL l ↔ x ∈ l := (List.mergeSort_perm l lexLe).mem_iff

/-- One step of a list of what holds. -/
def stW (g : List Nat → Bool) (o : List (List Nat)) (l : List Nat) : List (List Nat) := if g l then o ++ [l] else o
def foldW (g : List Nat → Bool) (most : Int) : List (List Nat) → List (List Nat) → Bool × List (List Nat)
  | [], o => (true, o)
  | l :: ls, o => if ((stW g o l).length : Int) < most then foldW g most ls (stW g o l) else (false, stW g o l)
theorem foldW_cons (g : List Nat → Bool) (most : Int) (l : List Nat) (ls o : List (List Nat)) : foldW g most (l :: ls) o = if ((stW g o l).length : Int) < most then foldW g most ls (stW g o l) else (false, stW g o l) := rfl
theorem foldW_append (g : List Nat → Bool) (most : Int) (ys : List (List Nat)) : ∀ xs o, foldW g most (xs ++ ys) o = if (foldW g most xs o).1 = true then foldW g most ys (foldW g most xs o).2 else foldW g most xs o
  | [], o => by simp [foldW]
  | l :: ls, o => by
    rw [List.cons_append, foldW_cons, foldW_cons]
    by_cases h : ((stW g o l).length : Int) < most
    · rw [if_pos h, if_pos h]; exact foldW_append g most ys ls _
    · rw [if_neg h, if_neg h]; rfl
theorem foldW_take (g : List Nat → Bool) (m : Nat) : ∀ xs o, o.length < m → (foldW g m xs o).2 = (o ++ xs.filter g).take m
  | [], o, h => by
    unfold foldW
    rw [List.filter_nil, List.append_nil, List.take_of_length_le (by omega)]
  | l :: ls, o, h => by
    rw [foldW_cons]
    cases hg : g l
    · have hs : stW g o l = o := by unfold stW; rw [hg]; rfl
      rw [hs, if_pos (by omega), foldW_take g m ls o h, List.filter_cons, hg]
      rfl
    · have hs : stW g o l = o ++ [l] := by unfold stW; rw [hg]; rfl
      rw [hs, List.filter_cons, hg, if_pos rfl]
      by_cases hc : ((o ++ [l]).length : Int) < m
      · rw [if_pos hc, foldW_take g m ls _ (by omega), List.append_assoc]
        rfl
      · rw [if_neg hc]
        have hl : (o ++ [l]).length = m := by simp at hc ⊢; omega
        show o ++ [l] = _
        have : o ++ l :: ls.filter g = (o ++ [l]) ++ ls.filter g := by simp
        rw [this, List.take_append_of_le_length (by omega), List.take_of_length_le (by omega)]
theorem stW_len (g : List Nat → Bool) (o : List (List Nat)) (l : List Nat) : (stW g o l).length ≤ o.length + 1 := by
  unfold stW
  split <;> simp

/-- The sets that follow some first ones. -/
def waysP (l : List Nat) (bs : List Bnd) : List (List Nat) := (waysE bs).map (l ++ ·)
theorem waysP_nil (l : List Nat) : waysP l [] = [l] := by unfold waysP waysE; simp
theorem subsD_fuel : ∀ (k k' m s : Nat), s < k → s < k' → subsD k m s = subsD k' m s
  | 0, _, _, _, h, _ => absurd h (Nat.not_lt_zero _)
  | _ + 1, 0, _, _, _, h => absurd h (Nat.not_lt_zero _)
  | k + 1, k' + 1, m, s, h, h' => by
    unfold subsD
    by_cases h0 : s = 0
    · rw [if_pos h0, if_pos h0]
    · have := sAnd_pred (m := m) h0
      rw [if_neg h0, if_neg h0, subsD_fuel k k' m _ (by omega) (by omega)]
/-- The sets that follow some first ones, from one choice of the next set down. -/
def waysQ (l : List Nat) (a m : Nat) (bs : List Bnd) (s : Nat) : List (List Nat) := (subsD (s + 1) m s).flatMap fun s => waysP (l ++ [sOr a s]) bs
theorem waysQ_step (l : List Nat) (a m : Nat) (bs : List Bnd) (s : Nat) : waysQ l a m bs s = waysP (l ++ [sOr a s]) bs ++ (if s = 0 then [] else waysQ l a m bs (sAnd (s - 1) m)) := by
  unfold waysQ
  conv => lhs; unfold subsD
  rw [List.flatMap_cons]
  by_cases h0 : s = 0
  · rw [if_pos h0, if_pos h0]; rfl
  · have := sAnd_pred (m := m) h0
    rw [if_neg h0, if_neg h0, subsD_fuel s (sAnd (s - 1) m + 1) m _ (by omega) (by omega)]
theorem waysP_cons (l : List Nat) (b : Bnd) (bs : List Bnd) : waysP l (b :: bs) = waysQ l b.inn (sDiff b.can b.inn) bs (sDiff b.can b.inn) := by
  unfold waysP waysQ
  conv => lhs; unfold waysE
  unfold subsL waysP
  rw [List.map_flatMap]
  congr 1
  funext s
  rw [List.map_map]
  congr 1
  funext x
  simp

/-- All rules hold for some sets. -/
def heldAll (p : Prob) (l : List Nat) : Bool := !((List.range p.rules.length).any (notHeld p l))
theorem heldAll_iff (p : Prob) (l : List Nat) : heldAll p l = true ↔ ∀ i, i < p.rules.length → heldN (rget p.rules i) l = true := by
  unfold heldAll
  rw [Bool.not_eq_true', Bool.eq_false_iff, ne_eq, List.any_eq_true]
  constructor
  · intro h i hi
    cases hc : heldN (rget p.rules i) l
    · exact absurd ⟨i, List.mem_range.2 hi, by unfold notHeld; rw [hc]; rfl⟩ h
    · rfl
  · rintro h ⟨i, hi, hn⟩
    unfold notHeld at hn
    rw [h i (List.mem_range.1 hi)] at hn
    cases hn
def solsW (p : Prob) : List (List Nat) := (waysE p.bounds).filter (heldAll p)
/-- What the law's own search finds. -/
def foundR (p : Prob) (most : Int) : List (List Nat) := sortL (foldW (heldAll p) most (waysE p.bounds) []).2
theorem foundR_take (p : Prob) {m : Nat} (h : 0 < m) : foundR p m = sortL ((solsW p).take m) := by
  unfold foundR
  rw [foldW_take (heldAll p) m _ [] h, List.nil_append]
  rfl
theorem bnd_get {bs : List Bnd} {i : Nat} (h : i < bs.length) : bget (padB bs) i = bs[i] := by
  rw [bget_pad]
  unfold bget
  rw [List.getElem?_eq_getElem h]
  rfl
theorem bnd_sub {p : Prob} (hp : probOk p = true) : ∀ b ∈ p.bounds, ∀ e, b.inn.testBit e = true → b.can.testBit e = true := fun b hb e he => by
  obtain ⟨i, hi, rfl⟩ := List.mem_iff_getElem.1 hb
  have := (Good.first hp).sub i e
  show (p.bounds[i]).can.testBit e = true
  have h2 : bget (padB p.bounds) i = p.bounds[i] := bnd_get hi
  have h3 : (bget (padB p.bounds) i).inn.testBit e = true → (bget (padB p.bounds) i).can.testBit e = true := this
  rw [h2] at h3
  exact h3 he
theorem ways_tight {p : Prob} (hp : probOk p = true) (l : List Nat) : l ∈ waysE p.bounds ↔ l.length = p.bounds.length ∧ Tight (setsB l) (padB p.bounds) := by
  rw [waysE_mem p.bounds (bnd_sub hp)]
  constructor
  · rintro ⟨h1, h2⟩
    refine ⟨h1, fun v e => ?_⟩
    rw [bget_sets]
    by_cases hv : v < p.bounds.length
    · rw [bnd_get hv]; exact h2 v hv e
    · have hd : bget (padB p.bounds) v = default := by rw [bget_pad]; unfold bget; rw [List.getElem?_eq_none (by omega)]; rfl
      have hn : nget l v = 0 := by unfold nget; rw [List.getElem?_eq_none (by omega)]; rfl
      rw [hd, hn]
      exact ⟨fun h => h, fun h => h⟩
  · rintro ⟨h1, h2⟩
    refine ⟨h1, fun i hi e => ?_⟩
    have := h2 i e
    rw [bget_sets, bnd_get hi] at this
    exact this
theorem ways_lt {p : Prob} (hp : probOk p = true) {l : List Nat} (h : l ∈ waysE p.bounds) : ∀ s ∈ l, s < 4096 := fun s hs => by
  obtain ⟨i, hi, rfl⟩ := List.mem_iff_getElem.1 hs
  have h1 := (ways_tight hp l).1 h
  refine lt4096 fun e he => ?_
  have hn : nget l i = l[i] := by unfold nget; rw [List.getElem?_eq_getElem hi]; rfl
  have h2 := (h1.2 i e).2
  rw [bget_sets] at h2
  have h3 := h2 (show (nget l i).testBit e = true by rw [hn]; exact he)
  have h4 := ((Good.first hp).s12.get i).2
  have h5 : (bget (padB p.bounds) i).can.testBit e = true := h3
  have h4' : (bget (padB p.bounds) i).can < 2 ^ 12 := h4
  apply Decidable.byContradiction
  intro hc
  have h6 := Nat.testBit_lt_two_pow (Nat.lt_of_lt_of_le h4' (Nat.pow_le_pow_right (by decide) (show 12 ≤ e by omega)))
  rw [h5] at h6; cases h6
theorem solsW_mem {p : Prob} (hp : probOk p = true) (l : List Nat) : l ∈ solsW p ↔ Sol p (padB p.bounds) l := by
  unfold solsW
  rw [List.mem_filter, heldAll_iff]
  constructor
  · rintro ⟨h1, h2⟩
    have ht := (ways_tight hp l).1 h1
    exact ⟨ht.1, fun i hi => by rw [← held_poss _ ((probOk_fit hp).2.2.2.1 i hi) l (ways_lt hp h1)]; exact h2 i hi, ht.2⟩
  · intro h
    have h1 := (ways_tight hp l).2 ⟨h.len, h.tight⟩
    exact ⟨h1, fun i hi => by rw [held_poss _ ((probOk_fit hp).2.2.2.1 i hi) l (ways_lt hp h1)]; exact h.rules i hi⟩
theorem solsW_nodup (p : Prob) : (solsW p).Nodup := List.Nodup.sublist List.filter_sublist (waysE_nodup _)
theorem solsW_perm {p : Prob} (hp : probOk p = true) : (solsP p).Perm (solsW p) :=
  (List.perm_ext_iff_of_nodup (solsP_nodup hp) (solsW_nodup p)).2 fun l => by rw [solsP_mem hp, solsW_mem hp]
/-- With fewer than so many solutions the search's are the law's, sorted. -/
theorem found_all {p : Prob} (hp : probOk p = true) (h : (foundR p 100).length < 100) : foundR p 100 = sortL (solsP p) ∧ (solsP p).length < 100 := by
  have h1 : foundR p 100 = sortL ((solsW p).take 100) := foundR_take p (m := 100) (by decide)
  rw [h1, sortL_length, List.length_take] at h
  have h2 : (solsW p).length < 100 := by omega
  rw [h1, List.take_of_length_le (by omega), sortL_perm (solsW_perm hp), (solsW_perm hp).length_eq]
  exact ⟨rfl, h2⟩
theorem found_one {p : Prob} (hp : probOk p = true) : foundR p 1 = [] ↔ solsP p = [] := by
  have h1 : foundR p 1 = sortL ((solsW p).take 1) := foundR_take p (m := 1) (by decide)
  have h2 : (foundR p 1).length = ((solsW p).take 1).length := by rw [h1, sortL_length]
  have h3 := (solsW_perm hp).length_eq
  rw [← List.length_eq_zero_iff, h2, ← List.length_eq_zero_iff, List.length_take]
  omega
end Go.Proofs.YtilbbnjfaoldoaaGreatDoor
