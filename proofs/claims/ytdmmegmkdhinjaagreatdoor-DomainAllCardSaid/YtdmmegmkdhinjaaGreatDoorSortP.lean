/- Rows of numbers in order, all ways to choose from domains in that order, and what the law's own search keeps of them. In plain Lean. -/
import Derived.Test.YtdmmegmkdhinjaaGreatDoorLeaf
import Derived.Shelf.SlSortCmp.Insertion
namespace Go.Proofs.YtdmmegmkdhinjaaGreatDoor
open Go Go.RowKit Go.Sort

/-- The order of rows. -/
def cmpZ : List Int → List Int → Int
  | [], [] => 0
  | [], _ :: _ => -1
  | _ :: _, [] => 1
  | a :: x, b :: y => if a < b then -1 else if b < a then 1 else cmpZ x y
theorem cmpZ_lt : ∀ x y, cmpZ x y < 0 ↔ x < y
  | [], [] => by unfold cmpZ; simp
  | [], _ :: _ => by unfold cmpZ; simp
  | _ :: _, [] => by unfold cmpZ; simp
  | a :: x, b :: y => by
    unfold cmpZ
    rw [List.cons_lt_cons_iff]
    by_cases h1 : a < b
    · simp [h1]
    · rw [if_neg h1]
      by_cases h2 : b < a
      · rw [if_pos h2]
        have h3 : ¬ a = b := by omega
        simp [h1, h3]
      · rw [if_neg h2, cmpZ_lt x y]
        have h3 : a = b := by omega
        simp [h3]
theorem ltZ (x y : List Int) : ltOf cmpZ x y = decide (x < y) := by
  unfold ltOf
  rw [decide_eq_decide]
  exact cmpZ_lt x y
theorem swoZ : SWO (ltOf cmpZ) where
  irrefl x := by rw [ltZ, decide_eq_false_iff_not]; exact List.lt_irrefl x
  trans x y z h1 h2 := by
    rw [ltZ, decide_eq_true_eq] at *
    exact List.lt_trans h1 h2
  ntrans x y z h1 h2 := by
    rw [ltZ, decide_eq_false_iff_not, List.not_lt] at *
    exact List.le_trans h2 h1
theorem totZ (x y : List Int) (h1 : ltOf cmpZ x y = false) (h2 : ltOf cmpZ y x = false) : x = y := by
  rw [ltZ, decide_eq_false_iff_not, List.not_lt] at h1 h2
  exact List.le_antisymm h2 h1
def lexZ (x y : List Int) : Bool := !ltOf cmpZ y x
def sortZ (l : List (List Int)) : List (List Int) := l.mergeSort lexZ
theorem lexZ_trans (a b c : List Int) (h1 : lexZ a b = true) (h2 : lexZ b c = true) : lexZ a c = true := by
  unfold lexZ at *
  rw [Bool.not_eq_true'] at *
  exact swoZ.ntrans _ _ _ h2 h1
theorem lexZ_total (a b : List Int) : (lexZ a b || lexZ b a) = true := by
  unfold lexZ
  rw [ltZ, ltZ]
  by_cases h : b < a
  · have h' : ¬ a < b := List.lt_asymm h
    simp [h']
  · simp [h]
theorem lexZ_anti (a b : List Int) (h1 : lexZ a b = true) (h2 : lexZ b a = true) : a = b := by
  unfold lexZ at *
  rw [Bool.not_eq_true'] at *
  exact totZ _ _ h2 h1
theorem sortZ_length (l : List (List Int)) : (sortZ l).length = l.length := (List.mergeSort_perm l lexZ).length_eq
theorem sortZ_mem {l : List (List Int)} {x : List Int} : x ∈ sortZ l ↔ x ∈ l := (List.mergeSort_perm l lexZ).mem_iff
/-- A list of the same rows that lies in order is the sorted one. -/
theorem sortZ_of {l l' : List (List Int)} (h : l.Perm l') (hs : l'.Pairwise (· < ·)) : sortZ l = l' :=
  List.Perm.eq_of_pairwise (le := fun a b => lexZ a b = true) (fun a b _ _ h1 h2 => lexZ_anti a b h1 h2) (List.pairwise_mergeSort lexZ_trans lexZ_total l)
    (hs.imp fun {a b} hab => by unfold lexZ; rw [ltZ, Bool.not_eq_true', decide_eq_false_iff_not]; exact List.lt_asymm hab) ((List.mergeSort_perm l lexZ).trans h)
/-! the ways -/
def vals16 (d : Nat) : List Nat := (List.range 16).filter d.testBit
/-- All ways to choose values from domains, in order. -/
def waysL : List Nat → List (List Nat)
  | [] => [[]]
  | d :: ds => (vals16 d).flatMap fun v => (waysL ds).map (v :: ·)
theorem mem_vals {d v : Nat} : v ∈ vals16 d ↔ v < 16 ∧ d.testBit v = true := by unfold vals16; rw [List.mem_filter, List.mem_range]
theorem nget_zero (a : Nat) (l : List Nat) : nget (a :: l) 0 = a := rfl
theorem nget_succ (a : Nat) (l : List Nat) (i : Nat) : nget (a :: l) (i + 1) = nget l i := by unfold nget; rw [List.getElem?_cons_succ]
theorem waysL_mem : ∀ (ds : List Nat), (∀ d ∈ ds, d < 65536) → ∀ l, l ∈ waysL ds ↔ InD ds l
  | [], _ => fun l => by
    unfold waysL InD
    rw [List.mem_singleton]
    constructor
    · rintro rfl; exact ⟨rfl, fun i h => absurd h (Nat.not_lt_zero _)⟩
    · rintro ⟨h, _⟩; exact List.length_eq_zero_iff.1 h
  | d :: ds, hd => fun l => by
    have ih := waysL_mem ds (fun b hb => hd b (by simp [hb]))
    unfold waysL
    rw [List.mem_flatMap]
    constructor
    · rintro ⟨v, h1, h2⟩
      obtain ⟨x, hx, rfl⟩ := List.mem_map.1 h2
      obtain ⟨e1, e2⟩ := (ih x).1 hx
      refine ⟨by simp [e1], fun i hi => ?_⟩
      cases i with
      | zero => exact (mem_vals.1 h1).2
      | succ i => rw [nget_succ, nget_succ]; exact e2 i (by simpa using hi)
    · rintro ⟨h1, h2⟩
      cases l with
      | nil => simp at h1
      | cons a x =>
        have h0 := h2 0 (by simp)
        rw [nget_zero, nget_zero] at h0
        refine ⟨a, mem_vals.2 ⟨?_, h0⟩, List.mem_map.2 ⟨x, (ih x).2 ⟨by simpa using h1, fun i hi => ?_⟩, rfl⟩⟩
        · apply Classical.byContradiction
          intro hge
          rw [Nat.testBit_lt_two_pow (Nat.lt_of_lt_of_le (hd d (by simp)) (show 65536 ≤ 2 ^ a from Nat.pow_le_pow_right (n := 2) (i := 16) (by decide) (by omega)))] at h0
          cases h0
        · have := h2 (i + 1) (by simpa using hi)
          rwa [nget_succ, nget_succ] at this
theorem waysL_sorted : ∀ (ds : List Nat), (waysL ds).Pairwise (· < ·)
  | [] => List.pairwise_singleton _ _
  | d :: ds => by
    unfold waysL
    rw [List.pairwise_flatMap]
    refine ⟨fun v _ => ?_, ?_⟩
    · rw [List.pairwise_map]
      exact (waysL_sorted ds).imp fun {a b} h => by rw [List.cons_lt_cons_iff]; exact .inr ⟨rfl, h⟩
    · refine List.Pairwise.imp ?_ (List.Pairwise.filter _ List.pairwise_lt_range)
      intro a b hab x hx y hy
      obtain ⟨x', _, rfl⟩ := List.mem_map.1 hx
      obtain ⟨y', _, rfl⟩ := List.mem_map.1 hy
      rw [List.cons_lt_cons_iff]; exact .inl hab
theorem lt_natI : ∀ {a b : List Nat}, a < b → a.map natI < b.map natI
  | [], [], h => absurd h (List.lt_irrefl _)
  | [], _ :: _, _ => by simp
  | _ :: _, [], h => by simp at h
  | a :: x, b :: y, h => by
    rw [List.cons_lt_cons_iff] at h
    show natI a :: x.map natI < natI b :: y.map natI
    rw [List.cons_lt_cons_iff]
    rcases h with h | ⟨h1, h2⟩
    · left; unfold natI; omega
    · right; exact ⟨by rw [h1], lt_natI h2⟩
/-! what the law keeps -/
def stZ (p : Dp) (o : List (List Int)) (l : List Nat) : List (List Int) := if allHold p (l.map natI) then o ++ [l.map natI] else o
def foldZ (p : Dp) : List (List Nat) → List (List Int) → Bool × List (List Int)
  | [], o => (true, o)
  | l :: ls, o => if (stZ p o l).length ≤ 200 then foldZ p ls (stZ p o l) else (false, stZ p o l)
theorem foldZ_append (p : Dp) (ys : List (List Nat)) : ∀ xs o, foldZ p (xs ++ ys) o = if (foldZ p xs o).1 = true then foldZ p ys (foldZ p xs o).2 else foldZ p xs o
  | [], o => by simp [foldZ]
  | l :: ls, o => by
    show (if (stZ p o l).length ≤ 200 then foldZ p (ls ++ ys) (stZ p o l) else (false, stZ p o l)) = if (if (stZ p o l).length ≤ 200 then foldZ p ls (stZ p o l) else (false, stZ p o l)).1 = true then foldZ p ys (if (stZ p o l).length ≤ 200 then foldZ p ls (stZ p o l) else (false, stZ p o l)).2 else (if (stZ p o l).length ≤ 200 then foldZ p ls (stZ p o l) else (false, stZ p o l))
    by_cases h : (stZ p o l).length ≤ 200
    · rw [if_pos h, if_pos h]; exact foldZ_append p ys ls _
    · rw [if_neg h, if_neg h]; rfl
theorem foldZ_take (p : Dp) : ∀ xs o, o.length ≤ 200 → (foldZ p xs o).2 = (o ++ (xs.filter fun l => allHold p (l.map natI)).map (List.map natI)).take 201
  | [], o, h => by
    unfold foldZ
    rw [List.filter_nil, List.map_nil, List.append_nil, List.take_of_length_le (by omega)]
  | l :: ls, o, h => by
    unfold foldZ
    cases hg : allHold p (l.map natI)
    · have hs : stZ p o l = o := by unfold stZ; rw [hg]; rfl
      rw [hs, if_pos h, foldZ_take p ls o h, List.filter_cons, hg]
      rfl
    · have hs : stZ p o l = o ++ [l.map natI] := by unfold stZ; rw [hg]; rfl
      rw [hs, List.filter_cons, hg, if_pos rfl, List.map_cons]
      have e : ∀ z : List (List Int), o ++ l.map natI :: z = (o ++ [l.map natI]) ++ z := fun z => by simp
      rw [e ((ls.filter fun l => allHold p (l.map natI)).map (List.map natI))]
      by_cases hc : (o ++ [l.map natI]).length ≤ 200
      · rw [if_pos hc, foldZ_take p ls _ hc]
      · rw [if_neg hc]
        have hl : (o ++ [l.map natI]).length = 201 := by simp at hc ⊢; omega
        show o ++ [l.map natI] = _
        rw [List.take_append_of_le_length (by omega), List.take_of_length_le (by omega)]
theorem stZ_len (p : Dp) (o : List (List Int)) (l : List Nat) : (stZ p o l).length ≤ o.length + 1 := by unfold stZ; split <;> simp
/-- All solutions, in order. -/
def solsZ (p : Dp) : List (List Int) := ((waysL p.doms).filter fun l => allHold p (l.map natI)).map (List.map natI)
def wantZ (p : Dp) : List (List Int) := (foldZ p (waysL p.doms) []).2
theorem wantZ_take (p : Dp) : wantZ p = (solsZ p).take 201 := by unfold wantZ; rw [foldZ_take p _ [] (by simp), List.nil_append]; rfl
theorem wantZ_len (p : Dp) : (wantZ p).length ≤ 201 := by rw [wantZ_take, List.length_take]; omega
theorem solsZ_sorted (p : Dp) : (solsZ p).Pairwise (· < ·) := by
  unfold solsZ
  rw [List.pairwise_map]
  exact ((waysL_sorted p.doms).filter _).imp fun h => lt_natI h
theorem solsZ_once (p : Dp) : (solsZ p).Nodup := (solsZ_sorted p).imp fun {a b} h e => by rw [e] at h; exact List.lt_irrefl _ h
theorem solsZ_mem {p : Dp} (hp : probD p = true) (l : List Int) : l ∈ solsZ p ↔ ∃ vs : List Nat, l = vs.map natI ∧ InD p.doms vs ∧ allHold p l = true := by
  have hd : ∀ d ∈ p.doms, d < 65536 := fun d hd => by
    obtain ⟨i, hi, rfl⟩ := List.mem_iff_getElem.1 hd
    have := (probD_parts hp).2.2.2.1 i
    unfold nget at this
    rwa [List.getElem?_eq_getElem hi] at this
  unfold solsZ
  rw [List.mem_map]
  constructor
  · rintro ⟨vs, h1, rfl⟩
    rw [List.mem_filter, waysL_mem _ hd] at h1
    exact ⟨vs, rfl, h1⟩
  · rintro ⟨vs, rfl, h1, h2⟩
    exact ⟨vs, by rw [List.mem_filter, waysL_mem _ hd]; exact ⟨h1, h2⟩, rfl⟩
/-- The leaves of a problem's search. -/
def leafP (p : Dp) : List (List Int) := leafD p (totalD (padD p.doms) + 1) (padD p.doms)
def sizeP (p : Dp) : Nat := sizeT p (totalD (padD p.doms) + 1) (padD p.doms)
theorem leafP_perm {p : Dp} (hp : probD p = true) : (leafP p).Perm (solsZ p) := by
  have hf := padD_ok hp
  refine (List.perm_ext_iff_of_nodup (leaf_once hp _ _ hf (Nat.lt_succ_self _)) (solsZ_once p)).2 fun l => ?_
  rw [solsZ_mem hp]
  constructor
  · intro h
    obtain ⟨vs, h1, h2, h3⟩ := leaf_sound hp _ _ hf (Nat.lt_succ_self _) l h
    exact ⟨vs, h1, ⟨h2.1, fun i hi => by have := h2.2 i hi; rwa [padD_get] at this⟩, h3⟩
  · rintro ⟨vs, rfl, h1, h2⟩
    exact leaf_all hp _ _ hf (Nat.lt_succ_self _) vs ⟨h1.1, fun i hi => by rw [padD_get]; exact h1.2 i hi⟩ h2
/-- The search's solutions sorted are the law's. -/
theorem leafP_sort {p : Dp} (hp : probD p = true) (hw : (wantZ p).length ≤ 199) : sortZ (leafP p) = wantZ p ∧ (leafP p).length = (wantZ p).length := by
  have h1 : (solsZ p).length ≤ 199 := by rw [wantZ_take, List.length_take] at hw; omega
  have h2 : wantZ p = solsZ p := by rw [wantZ_take, List.take_of_length_le (by omega)]
  rw [h2]
  exact ⟨sortZ_of (leafP_perm hp) (solsZ_sorted p), (leafP_perm hp).length_eq⟩
theorem leafP_row {p : Dp} (hp : probD p = true) {l : List Int} (h : l ∈ leafP p) : l.length = p.doms.length := by
  obtain ⟨vs, h1, h2, _⟩ := leaf_sound hp _ _ (padD_ok hp) (Nat.lt_succ_self _) l h
  rw [h1, List.length_map]; exact h2.1
theorem leafP_once {p : Dp} (hp : probD p = true) : (leafP p).Nodup := leaf_once hp _ _ (padD_ok hp) (Nat.lt_succ_self _)
/-- Where the search is open, there are many ways. -/
theorem sizeP_ways {p : Dp} (hp : probD p = true) (h0 : p.doms.contains 0 = false) : sizeP p + 1 ≤ 2 * waysN p.doms.length p.doms := by
  have hnz : ∀ i, i < p.doms.length → nget p.doms i ≠ 0 := by
    have e : p.doms.take p.doms.length = p.doms := List.take_length
    exact nz_of (Nat.le_refl _) (by rw [e]; exact h0)
  have h1 := size_ways hp (fun f hf i => run_sizes hp f hf i) (totalD (padD p.doms) + 1) (padD p.doms) (padD_ok hp) (Nat.lt_succ_self _) fun i hi => by
    rw [padD_get]; exact size_pos ((probD_parts hp).2.2.2.1 i) (hnz i hi)
  have h2 : waysN p.doms.length (padD p.doms) ≤ waysN p.doms.length p.doms := waysN_le _ fun i _ => by rw [padD_get]; exact Nat.le_refl _
  unfold sizeP
  omega
theorem sizeP_pos (p : Dp) : 1 ≤ sizeP p := by
  unfold sizeP sizeT
  split
  · exact Nat.le_refl _
  · split
    · exact Nat.le_refl _
    · omega
/-! what Solve and Best are told -/
theorem tell_solve (m : Nat) : ∀ (ls out : List (List Int)), out.length < m → (tellD (solveF m) ls out).2 = (out ++ ls).take m ∧ ((tellD (solveF m) ls out).1 = decide ((out ++ ls).length < m))
  | [], out, h => by
    unfold tellD
    rw [List.append_nil]
    exact ⟨by rw [List.take_of_length_le (by omega)], by simp [h]⟩
  | l :: ls, out, h => by
    unfold tellD solveF
    dsimp only
    have e : out ++ l :: ls = (out ++ [l]) ++ ls := by simp
    by_cases hc : out.length + 1 < m
    · rw [if_pos (by rw [decide_eq_true_eq]; omega), e]
      exact tell_solve m ls (out ++ [l]) (by simp; omega)
    · rw [if_neg (by rw [decide_eq_true_eq]; omega), e]
      have hl : (out ++ [l]).length = m := by simp; omega
      refine ⟨?_, ?_⟩
      · show out ++ [l] = _
        rw [List.take_append_of_le_length (by omega), List.take_of_length_le (by omega)]
      · show false = _
        rw [eq_comm, decide_eq_false_iff_not, List.length_append, hl]; omega
/-- The first of the least, by one place. -/
def minF (v : Nat) : List Int → List (List Int) → List Int
  | m, [] => m
  | m, l :: ls => minF v (if iget l v < iget m v then l else m) ls
theorem tell_best (v : Nat) : ∀ (ls : List (List Int)) (o : List Int), tellD (bestF v) ls (some o) = (true, some (minF v o ls))
  | [], _ => rfl
  | l :: ls, o => by
    unfold tellD bestF
    dsimp only
    rw [if_pos rfl]
    show tellD (bestF v) ls (if iget l v < iget o v then some l else some o) = _
    unfold minF
    split
    · exact tell_best v ls l
    · exact tell_best v ls o
theorem tell_best0 (v : Nat) (ls : List (List Int)) : tellD (bestF v) ls none = (true, match ls with | [] => none | l :: ls => some (minF v l ls)) := by
  cases ls with
  | nil => rfl
  | cons l ls =>
    unfold tellD bestF
    dsimp only
    rw [if_pos rfl]
    exact tell_best v ls l
end Go.Proofs.YtdmmegmkdhinjaaGreatDoor
