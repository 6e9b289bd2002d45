/- Lists of facts whose last one is wrong. -/
import Derived.Test.YtilbbnjfaoldoaaGreatDoorPlainG
import Derived.Test.YtilbbnjfaoldoaaGreatDoorFactsB
namespace Go.Proofs.YtilbbnjfaoldoaaGreatDoor
open Go Go.RowKit

theorem verI_bad {p : Prob} {l : List Fact} {x : Fact} (h : ∀ j, j < l.length → rightB p (l.take j) (fget l j) = true) (hx : rightB p l x = false) : verI p (l ++ [x]) = l.length := by
  unfold verI
  refine idxOf_some (by simp) (fun j hj => ?_) ?_
  · rw [List.take_append_of_le_length (by omega), fget_append, if_pos hj, h j hj]; rfl
  · rw [List.take_left, fget_append, if_neg (Nat.lt_irrefl _), Nat.sub_self]
    show (!rightB p l (fget [x] 0)) = true
    rw [show fget [x] 0 = x from rfl, hx]; rfl
theorem ver_bad {p : Prob} {l : List Fact} (hp : probOk p = true) {n : Nat} (h : verI p l = n) : verN p l = n ∧ verE p l = 7 := by
  unfold verN verE
  rw [hp, h, decide_eq_true (Int.natCast_nonneg n), if_pos rfl, if_pos (Int.natCast_nonneg n)]
  exact ⟨rfl, rfl⟩
theorem ver_good {p : Prob} {l : List Fact} (hp : probOk p = true) (h : verI p l = -1) : verN p l = 0 ∧ verE p l = 0 := by
  unfold verN verE
  rw [hp, h]
  exact ⟨rfl, rfl⟩
theorem FactsOk.right_take {p : Prob} {st : St} (h : FactsOk p st) {i : Nat} (hi : i ≤ st.2.length) : ∀ j, j < (st.2.take i).length → rightB p ((st.2.take i).take j) (fget (st.2.take i) j) = true := fun j hj => by
  have hji : j < i := by simp at hj; omega
  rw [List.take_take, Nat.min_eq_left (by omega), fget_take hji]
  exact (h.all j (by omega)).right
theorem take_set_last {l : List Fact} {i : Nat} (hi : i < l.length) (x : Fact) : (l.take (i + 1)).set i x = l.take i ++ [x] := by
  rw [List.take_succ_eq_append_getElem hi, List.set_append_right _ _ (by simp; omega)]
  simp [Nat.min_eq_left (Nat.le_of_lt hi)]
/-- Without one of the numbers of its Why a fact is none. -/
theorem FactsOk.fewer {p : Prob} {st : St} (hp : probOk p = true) (h : FactsOk p st) {i k : Nat} (hi : i < st.2.length) (hk : k < (fget st.2 i).why.length) :
    verN p (st.2.take i ++ [{ fget st.2 i with why := (fget st.2 i).why.eraseIdx k }]) = i ∧ verE p (st.2.take i ++ [{ fget st.2 i with why := (fget st.2 i).why.eraseIdx k }]) = 7 := by
  have hl : (st.2.take i).length = i := by simp; omega
  refine ver_bad hp ?_
  rw [verI_bad (h.right_take (by omega)) ((h.all i hi).least k hk), hl]
theorem FactsOk.contrary {p : Prob} {st : St} (hp : probOk p = true) (h : FactsOk p st) {i : Nat} (hi : i < st.2.length) :
    verE p (st.2.take i ++ [{ fget st.2 i with inn := !(fget st.2 i).inn }]) = 7 := by
  have hl : (st.2.take i).length = i := by simp; omega
  exact (ver_bad hp (by rw [verI_bad (h.right_take (by omega)) (h.all i hi).other, hl])).2
theorem FactsOk.twice {p : Prob} {st : St} (hp : probOk p = true) (h : FactsOk p st) {i : Nat} (hi : i < st.2.length) :
    verN p (st.2 ++ [fget st.2 i]) = st.2.length ∧ verE p (st.2 ++ [fget st.2 i]) = 7 := by
  refine ver_bad hp (verI_bad (fun j hj => (h.all j hj).right) ?_)
  unfold rightB
  rw [dupF_yes hi (by unfold sameF; simp)]; simp
theorem fget_set (fs : List Fact) (i : Nat) (x : Fact) (j : Nat) (hi : i < fs.length) : fget (fs.set i x) j = if j = i then x else fget fs j := by
  unfold fget
  rw [List.getElem?_set]
  by_cases h : i = j
  · subst h; simp [hi]
  · rw [if_neg h, if_neg (Ne.symm h)]
/-- The numbers of a fact laid anew. -/
theorem FCells.setWhy {cs : List Value} {w : World} {B : Nat} {fs : List Fact} (h : FCells cs w B fs) {i : Nat} (hi : i < fs.length) {yv : Value} {why : List Int} (hy : Ints w B yv why) : FCells (cs.set (i * 5 + 4) yv) w B (fs.set i { fget fs i with why := why }) := by
  have hl := h.1
  refine ⟨by rw [List.length_set, List.length_set]; exact hl, fun j hj => ?_⟩
  rw [List.length_set] at hj
  rw [fget_set _ _ _ _ hi]
  obtain ⟨a, b, c, d, y, e, f⟩ := h.2 j hj
  rw [List.getElem?_set_ne (show i * 5 + 4 ≠ j * 5 by omega), List.getElem?_set_ne (show i * 5 + 4 ≠ j * 5 + 1 by omega), List.getElem?_set_ne (show i * 5 + 4 ≠ j * 5 + 2 by omega), List.getElem?_set_ne (show i * 5 + 4 ≠ j * 5 + 3 by omega)]
  by_cases hji : j = i
  · subst hji
    rw [if_pos rfl, List.getElem?_set_self (by omega)]
    exact ⟨a, b, c, d, yv, rfl, hy⟩
  · rw [if_neg hji, List.getElem?_set_ne (show i * 5 + 4 ≠ j * 5 + 4 by omega)]
    exact ⟨a, b, c, d, y, e, f⟩
/-- What a fact says laid anew. -/
theorem FCells.setIn {cs : List Value} {w : World} {B : Nat} {fs : List Fact} (h : FCells cs w B fs) {i : Nat} (hi : i < fs.length) {x : Bool} : FCells (cs.set (i * 5 + 2) (.bool x)) w B (fs.set i { fget fs i with inn := x }) := by
  have hl := h.1
  refine ⟨by rw [List.length_set, List.length_set]; exact hl, fun j hj => ?_⟩
  rw [List.length_set] at hj
  rw [fget_set _ _ _ _ hi]
  obtain ⟨a, b, c, d, y, e, f⟩ := h.2 j hj
  rw [List.getElem?_set_ne (show i * 5 + 2 ≠ j * 5 by omega), List.getElem?_set_ne (show i * 5 + 2 ≠ j * 5 + 1 by omega), List.getElem?_set_ne (show i * 5 + 2 ≠ j * 5 + 3 by omega), List.getElem?_set_ne (show i * 5 + 2 ≠ j * 5 + 4 by omega)]
  by_cases hji : j = i
  · subst hji
    rw [if_pos rfl, List.getElem?_set_self (by omega)]
    exact ⟨a, b, rfl, d, y, e, f⟩
  · rw [if_neg hji, List.getElem?_set_ne (show i * 5 + 2 ≠ j * 5 + 2 by omega)]
    exact ⟨a, b, c, d, y, e, f⟩
/-- One fact of a slice of facts. -/
theorem Fcts.one {w : World} {B : Nat} {b off n c : Nat} {fs : List Fact} (h : Fcts w B (.slice (some ⟨b, off, none⟩) n c) fs) {i : Nat} (hi : i < fs.length) : Fcts w B (.slice (some ⟨b, off + i * 5, none⟩) 1 (c - i)) [fget fs i] := by
  obtain ⟨cf, ⟨hn, a', c', hv, hnc, hcm, hr⟩, hc⟩ := h
  cases hv
  obtain ⟨b', o', hae, hb, hcell⟩ := hr (by omega)
  cases hae
  refine ⟨fun j => cf (i * 5 + j), ⟨by show 1 ≤ _; decide, _, _, rfl, by show 1 ≤ _; omega, by omega, fun _ => ⟨_, _, rfl, hb, fun j hj => ?_⟩⟩, fun j hj => ?_⟩
  · rw [Nat.add_assoc]
    exact hcell (i * 5 + j) (by have : j < 1 * 5 := hj; omega)
  · have : j = 0 := by have : j < 1 := hj; omega
    subst this
    exact hc i hi
end Go.Proofs.YtilbbnjfaoldoaaGreatDoor
