/- What a cut hangs on, in plain Lean: the reference's marks are the numbers that are met. -/
import Derived.Test.YtdmmegmkdhinjaaGreatDoorBH
namespace Go.Proofs.YtdmmegmkdhinjaaGreatDoor
open Go Go.RowKit

/-- What a cut's reasons lead to. -/
def Hang (l : List Cut) (n i : Nat) : Prop := ∀ S : Nat → Prop, S n → (∀ i, S i → ∀ x ∈ (cget l i).why, S x.toNat) → S i
theorem Hang.start (l : List Cut) (n : Nat) : Hang l n n := fun _ h _ => h
theorem Hang.step {l : List Cut} {n i : Nat} {x : Int} (h : Hang l n i) (hx : x ∈ (cget l i).why) : Hang l n x.toNat := fun S h0 hs => hs i (h S h0 hs) x hx
theorem Hang.trans {l : List Cut} {n k i : Nat} (h : Hang l n k) (h' : Hang l k i) : Hang l n i := fun S h0 hs => h' S (h S h0 hs) hs
theorem Hang.lt {l : List Cut} {p : Dp} (hl : RLog p l) {n i : Nat} (hn : n < l.length) (h : Hang l n i) : i < l.length := h (· < l.length) hn fun i hi x hx => by
  obtain ⟨j, rfl, hj⟩ := (hl i hi).2 x hx
  show (j : Int).toNat < _
  rw [Int.toNat_natCast]; omega
def RulesOf (l : List Cut) (s : List Nat × List Int) : Prop := ∀ r, r ∈ s.2 ↔ ∃ i ∈ s.1, (cget l i).rule = r
structure VisP (l : List Cut) (Q : Nat → Prop) (s s' : List Nat × List Int) : Prop where
  sub : ∀ i ∈ s.1, i ∈ s'.1
  new : ∀ i ∈ s'.1, i ∈ s.1 ∨ (Q i ∧ ∀ x ∈ (cget l i).why, x.toNat ∈ s'.1)
  rules : RulesOf l s → RulesOf l s'
theorem VisP.refl (l : List Cut) (Q : Nat → Prop) (s : List Nat × List Int) : VisP l Q s s := ⟨fun _ h => h, fun _ h => .inl h, fun h => h⟩
theorem VisP.trans {l : List Cut} {Q Q' R : Nat → Prop} {s s1 s2 : List Nat × List Int} (h : VisP l Q s s1) (h' : VisP l Q' s1 s2) (hq : ∀ i, Q i → R i) (hq' : ∀ i, Q' i → R i) : VisP l R s s2 :=
  ⟨fun i hi => h'.sub i (h.sub i hi), fun i hi => by
    rcases h'.new i hi with h1 | ⟨h1, h2⟩
    · rcases h.new i h1 with h3 | ⟨h3, h4⟩
      · exact .inl h3
      · exact .inr ⟨hq i h3, fun x hx => h'.sub _ (h4 x hx)⟩
    · exact .inr ⟨hq' i h1, h2⟩, fun hr => h'.rules (h.rules hr)⟩
theorem fold_p {l : List Cut} {f : Nat} (ih : ∀ k st, k < f → k < l.length → VisP l (Hang l k) st (visC l f k st) ∧ k ∈ (visC l f k st).1) : ∀ (xs : List Int) (s : List Nat × List Int), (∀ x ∈ xs, x.toNat < f ∧ x.toNat < l.length) →
    VisP l (fun i => ∃ x ∈ xs, Hang l x.toNat i) s (xs.foldl (fun s x => visC l f x.toNat s) s) ∧ ∀ x ∈ xs, x.toNat ∈ (xs.foldl (fun s x => visC l f x.toNat s) s).1
  | [], s, _ => ⟨VisP.refl _ _ _, fun x hx => by simp at hx⟩
  | x :: xs, s, hx => by
    obtain ⟨h1, h2⟩ := ih x.toNat s (hx x (by simp)).1 (hx x (by simp)).2
    obtain ⟨h3, h4⟩ := fold_p ih xs (visC l f x.toNat s) fun y hy => hx y (by simp [hy])
    rw [List.foldl_cons]
    refine ⟨h1.trans h3 (fun i hi => ⟨x, by simp, hi⟩) (fun i ⟨y, hy, hi⟩ => ⟨y, by simp [hy], hi⟩), fun y hy => ?_⟩
    rcases List.mem_cons.1 hy with rfl | hy
    · exact h3.sub _ h2
    · exact h4 y hy
theorem vis_p {l : List Cut} {p : Dp} (hl : RLog p l) : ∀ (f k : Nat) (st : List Nat × List Int), k < f → k < l.length → VisP l (Hang l k) st (visC l f k st) ∧ k ∈ (visC l f k st).1
  | 0, _, _, h, _ => absurd h (Nat.not_lt_zero _)
  | f + 1, k, st, hk, hkl => by
    unfold visC
    split
    · rename_i hc
      exact ⟨VisP.refl _ _ _, by simpa using hc⟩
    · obtain ⟨h1, h2⟩ := fold_p (vis_p hl f) (cget l k).why (st.1 ++ [k], st.2 ++ [(cget l k).rule]) fun x hx => by
        obtain ⟨j, rfl, hj⟩ := (hl k hkl).2 x hx
        rw [Int.toNat_natCast]; omega
      obtain ⟨s', hs'⟩ : ∃ s', s' = (cget l k).why.foldl (fun s x => visC l f x.toNat s) (st.1 ++ [k], st.2 ++ [(cget l k).rule]) := ⟨_, rfl⟩
      rw [← hs'] at h1 h2 ⊢
      refine ⟨⟨fun i hi => h1.sub i (List.mem_append_left _ hi), fun i hi => ?_, fun hr => h1.rules fun r => ?_⟩, h1.sub k (List.mem_append_right _ (by simp))⟩
      · rcases h1.new i hi with h | ⟨⟨x, hx, h⟩, h'⟩
        · rcases List.mem_append.1 h with h | h
          · exact .inl h
          · rw [List.mem_singleton.1 h]; exact .inr ⟨Hang.start l k, h2⟩
        · exact .inr ⟨((Hang.start l k).step hx).trans h, h'⟩
      · rw [List.mem_append, hr r]
        constructor
        · rintro (⟨i, hi, e⟩ | h)
          · exact ⟨i, List.mem_append_left _ hi, e⟩
          · exact ⟨k, List.mem_append_right _ (by simp), (List.mem_singleton.1 h).symm⟩
        · rintro ⟨i, hi, e⟩
          rcases List.mem_append.1 hi with h | h
          · exact .inl ⟨i, h, e⟩
          · rw [List.mem_singleton.1 h] at e; exact .inr (by simp [e])
theorem vis_hang {l : List Cut} {p : Dp} (hl : RLog p l) {n : Nat} (hn : n < l.length) (r : Int) : r ∈ (visC l (n + 1) n ([], [])).2 ↔ ∃ i, Hang l n i ∧ (cget l i).rule = r := by
  obtain ⟨h1, h2⟩ := vis_p hl (n + 1) n ([], []) (Nat.lt_succ_self _) hn
  rw [h1.rules (fun r => by simp) r]
  constructor
  · rintro ⟨i, hi, e⟩
    rcases h1.new i hi with h | ⟨h, _⟩
    · simp at h
    · exact ⟨i, h, e⟩
  · rintro ⟨i, hi, e⟩
    refine ⟨i, hi (· ∈ (visC l (n + 1) n ([], [])).1) h2 (fun k hk x hx => ?_), e⟩
    rcases h1.new k hk with h | ⟨_, h⟩
    · simp at h
    · exact h x hx

/-! the marks -/
def fget (h : List Bool) (i : Nat) : Bool := h[i]?.getD false
theorem fget_set (h : List Bool) (i j : Nat) (b : Bool) : fget (h.set i b) j = if i = j ∧ i < h.length then b else fget h j := by
  unfold fget
  rw [List.getElem?_set]
  by_cases h1 : i = j
  · subst h1
    by_cases h2 : i < h.length
    · simp [h2]
    · simp [h2]
  · simp [h1]
def markW (xs : List Int) (h : List Bool) : List Bool := xs.foldl (fun h x => h.set x.toNat true) h
def markD (l : List Cut) (i : Nat) (h : List Bool) : List Bool := if fget h i then markW (cget l i).why h else h
def markN (l : List Cut) : Nat → List Bool → List Bool
  | 0, h => h
  | k + 1, h => markN l k (markD l k h)
def refCoreD (p : Dp) (l : List Cut) (n : Nat) : List Int := ((List.range p.rules.length).filter fun (r : Nat) => (List.range l.length).any fun i => fget (markN l (n + 1) ((List.replicate l.length false).set n true)) i && ((cget l i).rule == natI r)).map natI
theorem markW_len : ∀ (xs : List Int) (h : List Bool), (markW xs h).length = h.length
  | [], _ => rfl
  | x :: xs, h => by show (markW xs (h.set x.toNat true)).length = _; rw [markW_len xs, List.length_set]
theorem markW_get : ∀ (xs : List Int) (h : List Bool), (∀ x ∈ xs, x.toNat < h.length) → ∀ i, fget (markW xs h) i = true ↔ fget h i = true ∨ ∃ x ∈ xs, x.toNat = i
  | [], h, _, i => by simp [markW]
  | x :: xs, h, hx, i => by
    have := markW_get xs (h.set x.toNat true) (fun y hy => by rw [List.length_set]; exact hx y (by simp [hy])) i
    show fget (markW xs (h.set x.toNat true)) i = true ↔ _
    rw [this, fget_set]
    by_cases hi : x.toNat = i
    · rw [if_pos ⟨hi, hx x (by simp)⟩]
      exact ⟨fun _ => .inr ⟨x, by simp, hi⟩, fun _ => .inl rfl⟩
    · rw [if_neg (by omega)]
      constructor
      · rintro (h | ⟨y, hy, e⟩)
        · exact .inl h
        · exact .inr ⟨y, by simp [hy], e⟩
      · rintro (h | ⟨y, hy, e⟩)
        · exact .inl h
        · rcases List.mem_cons.1 hy with rfl | hy
          · exact absurd e hi
          · exact .inr ⟨y, hy, e⟩
structure Marks (l : List Cut) (n k : Nat) (h : List Bool) : Prop where
  len : h.length = l.length
  top : fget h n = true
  all : ∀ i, fget h i = true → Hang l n i
  shut : ∀ i, k ≤ i → fget h i = true → ∀ x ∈ (cget l i).why, fget h x.toNat = true
theorem Marks.step {l : List Cut} {p : Dp} (hl : RLog p l) {n k : Nat} {h : List Bool} (hm : Marks l n (k + 1) h) (hk : k < l.length) : Marks l n k (markD l k h) := by
  unfold markD
  split
  · rename_i hk1
    have hx : ∀ x ∈ (cget l k).why, x.toNat < k := fun x hx => by
      obtain ⟨j, rfl, hj⟩ := (hl k hk).2 x hx
      rw [Int.toNat_natCast]; exact hj
    have hg := markW_get (cget l k).why h (fun x hxm => by rw [hm.len]; have := hx x hxm; omega)
    refine ⟨by rw [markW_len]; exact hm.len, (hg n).2 (.inl hm.top), fun i hi => ?_, fun i hik hi x hxw => ?_⟩
    · rcases (hg i).1 hi with h | ⟨x, hxm, e⟩
      · exact hm.all i h
      · rw [← e]; exact (hm.all k hk1).step hxm
    · rw [hg]
      by_cases hik2 : i = k
      · subst hik2; exact .inr ⟨x, hxw, rfl⟩
      · rcases (hg i).1 hi with h | ⟨y, hym, e⟩
        · exact .inl (hm.shut i (by omega) h x hxw)
        · have := hx y hym; omega
  · rename_i hk1
    exact ⟨hm.len, hm.top, hm.all, fun i hik hi => by
      by_cases hik2 : i = k
      · subst hik2; exact absurd hi hk1
      · exact hm.shut i (by omega) hi⟩
theorem Marks.down {l : List Cut} {p : Dp} (hl : RLog p l) {n : Nat} : ∀ (k : Nat) {h : List Bool}, k ≤ l.length → Marks l n k h → Marks l n 0 (markN l k h)
  | 0, _, _, hm => hm
  | k + 1, _, hk, hm => Marks.down hl k (by omega) (hm.step hl (by omega))
theorem Marks.first {l : List Cut} {p : Dp} (hl : RLog p l) {n : Nat} (hn : n < l.length) : Marks l n (n + 1) ((List.replicate l.length false).set n true) := by
  have hg : ∀ i, fget ((List.replicate l.length false).set n true) i = true → i = n := fun i hi => by
    rw [fget_set] at hi
    by_cases h : n = i
    · exact h.symm
    · rw [if_neg (by omega)] at hi
      unfold fget at hi
      rw [List.getElem?_replicate] at hi
      split at hi <;> simp at hi
  refine ⟨by rw [List.length_set, List.length_replicate], by rw [fget_set, if_pos ⟨rfl, by rw [List.length_replicate]; exact hn⟩], fun i hi => by rw [hg i hi]; exact Hang.start l n, fun i hi h => ?_⟩
  have := hg i h
  omega
theorem core_ref {p : Dp} {l : List Cut} (hl : RLog p l) {n : Nat} (hn : n < l.length) : refCoreD p l n = coreD p l n := by
  have hm := Marks.down hl (n + 1) (by omega) (Marks.first hl hn)
  unfold refCoreD coreD
  congr 1
  apply List.filter_congr
  intro r _
  rw [Bool.eq_iff_iff, List.any_eq_true, List.contains_iff_mem, vis_hang hl hn]
  constructor
  · rintro ⟨i, _, h⟩
    simp only [Bool.and_eq_true, beq_iff_eq] at h
    exact ⟨i, hm.all i h.1, h.2⟩
  · rintro ⟨i, hi, e⟩
    refine ⟨i, List.mem_range.2 (hi.lt hl hn), ?_⟩
    simp only [Bool.and_eq_true, beq_iff_eq]
    exact ⟨hi (fun i => fget _ i = true) hm.top fun k hk x hx => hm.shut k (Nat.zero_le _) hk x hx, e⟩
end Go.Proofs.YtdmmegmkdhinjaaGreatDoor
