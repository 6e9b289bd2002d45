/- The reference of Domain: place, without, Reason. -/
import Derived.Test.YtdmmegmkdhinjaaDoorBN
namespace Go.Proofs.YtdmmegmkdhinjaaDoor
open Go Go.RowKit
attribute [local go_sem] cell_grow u64_sAnd u64_sOr u64_sDiff sDiff_all zeqI zneI sAnd_bit_zero sAnd_bit_zeroN sAnd_bit_nonzero

/-- Where a list has a number; -1, if it has not. -/
def placeD (l : List Int) (v : Int) : Int := if ihas l v then (l.idxOf v : Int) else -1
theorem idx_eq {v : Int} : ∀ {l : List Int} {k : Nat}, k < l.length → iget l k = v → (∀ j, j < k → iget l j ≠ v) → l.idxOf v = k
  | [], _, h, _, _ => absurd h (Nat.not_lt_zero _)
  | x :: l, 0, _, h, _ => by
    have hx : x = v := h
    rw [List.idxOf_cons, hx]; simp
  | x :: l, k + 1, hk, h, hl => by
    have hx : x ≠ v := hl 0 (Nat.succ_pos _)
    rw [List.idxOf_cons, idx_eq (l := l) (k := k) (by simpa using hk) h (fun j hj => hl (j + 1) (by omega)), show (x == v) = false by simpa using hx]; rfl
theorem place_some {l : List Int} {v : Int} {k : Nat} (hk : k < l.length) (h : iget l k = v) (hl : ∀ j, j < k → iget l j ≠ v) : placeD l v = k := by
  unfold placeD
  rw [idx_eq hk h hl, if_pos]
  unfold ihas
  rw [List.contains_iff_mem, ← h]
  unfold iget
  rw [List.getElem?_eq_getElem hk]; exact List.getElem_mem hk
theorem place_none {l : List Int} {v : Int} (hl : ∀ j, j < l.length → iget l j ≠ v) : placeD l v = -1 := by
  unfold placeD
  rw [if_neg]
  unfold ihas
  rw [List.contains_iff_mem]
  intro hm
  obtain ⟨j, hj, e⟩ := List.mem_iff_getElem.1 hm
  exact hl j hj (by simpa [iget, hj] using e)
theorem place_mem {l : List Int} {v : Int} (h : v ∈ l) : placeD l v = (l.idxOf v : Nat) := by
  unfold placeD
  rw [if_pos (by unfold ihas; rw [List.contains_iff_mem]; exact h)]
/-- A cut of one of n variables. -/
def CFitN (n : Nat) (c : Cut) : Prop := ∃ v e : Nat, c.var = v ∧ v < n ∧ c.value = e ∧ e < 16
theorem suppD_congr {f g : List Nat} (h : ∀ i, nget f i = nget g i) (r : Dr) (i : Nat) (v : Int) : suppD f r i v = suppD g r i v := by
  have : ofD f r.vars = ofD g r.vars := List.map_congr_left fun x _ => h x.toNat
  unfold suppD; rw [this]
theorem nget_len {f : List Nat} {i : Nat} (h : f.length ≤ i) : nget f i = 0 := by unfold nget; rw [List.getElem?_eq_none h]; rfl
theorem whyStep_len (l : List Cut) (x : Int) (f : List Nat) (k : Int) : (whyStep l x f k).length = f.length := by
  unfold whyStep; split
  · rfl
  · rw [List.length_set]
theorem whyFold_len (l : List Cut) (x : Int) : ∀ (ks : List Int) (f : List Nat), (ks.foldl (whyStep l x) f).length = f.length
  | [], _ => rfl
  | k :: ks, f => by rw [List.foldl_cons, whyFold_len l x ks, whyStep_len]
theorem whyStep_lt {l : List Cut} {x : Int} {f : List Nat} {k : Int} (h : ∀ i, nget f i < 65536) (i : Nat) : nget (whyStep l x f k) i < 65536 := by
  unfold whyStep
  split
  · exact h i
  · rw [nget_set]
    split
    · exact sDiff_lt (h _)
    · exact h i
theorem whyFold_lt {l : List Cut} {x : Int} : ∀ (ks : List Int) {f : List Nat}, (∀ i, nget f i < 65536) → ∀ i, nget (ks.foldl (whyStep l x) f) i < 65536
  | [], _, h, i => h i
  | k :: ks, f, h, i => whyFold_lt ks (whyStep_lt h) i
theorem whyFold_congr {l : List Cut} {x : Int} {n : Nat} (hl : ∀ i, i < l.length → CFitN n (cget l i)) : ∀ (ks : List Int) (f g : List Nat), (∀ i, i < ks.length → ∃ k : Nat, iget ks i = k ∧ k < l.length) → n ≤ f.length → n ≤ g.length → (∀ i, nget f i = nget g i) → ∀ i, nget (ks.foldl (whyStep l x) f) i = nget (ks.foldl (whyStep l x) g) i
  | [], _, _, _, _, _, h, i => h i
  | k :: ks, f, g, hw, hf, hg, h, i => by
    obtain ⟨q, hq, hql⟩ := hw 0 (by simp)
    have hq' : k = q := hq
    obtain ⟨v, e, hv, hvn, he, _⟩ := hl q hql
    refine whyFold_congr hl ks _ _ (fun j hj => hw (j + 1) (by simpa using hj)) (by rw [whyStep_len]; exact hf) (by rw [whyStep_len]; exact hg) (fun j => ?_) i
    unfold whyStep
    rw [hq', Int.toNat_natCast, hv, he, Int.toNat_natCast]
    split
    · exact h j
    · rw [nget_set, nget_set, h v]
      by_cases hvj : v = j
      · rw [if_pos ⟨hvj, by omega⟩, if_pos ⟨hvj, by omega⟩]
      · rw [if_neg (by omega), if_neg (by omega)]; exact h j
theorem explD_ref {p : Dp} {l : List Cut} {x : Nat} {v : Int} {j : Nat} {why : List Int} (hp : p.doms.length ≤ 8) (hl : ∀ i, i < l.length → CFitN p.doms.length (cget l i)) (hw : ∀ i, i < why.length → ∃ k : Nat, iget why i = k ∧ k < l.length) :
    explD p l ⟨x, v, j, why⟩ = !suppD (why.foldl (whyStep l x) p.doms) (drget p.rules j) ((drget p.rules j).vars.idxOf (x : Int)) v := by
  unfold explD whyF
  dsimp only
  rw [Int.toNat_natCast, suppD_congr (whyFold_congr hl why (padD p.doms) p.doms hw (by rw [padD_length hp]; exact hp) (Nat.le_refl _) (padD_get _))]
end Go.Proofs.YtdmmegmkdhinjaaDoor
