/- The search of package domain as a tree: how many nodes, and what is told, without a bound. In plain Lean. -/
import Derived.Test.YtdmmegmkdhinjaaGreatDoorBI
namespace Go.Proofs.YtdmmegmkdhinjaaGreatDoor
open Go Go.RowKit

/-- What a search tells somebody, until they say no. -/
def tellD {σ : Type} (fnd : σ → List Int → Bool × σ) : List (List Int) → σ → Bool × σ
  | [], s => (true, s)
  | l :: ls, s => if (fnd s l).1 then tellD fnd ls (fnd s l).2 else (false, (fnd s l).2)
theorem tellD_append {σ : Type} (fnd : σ → List Int → Bool × σ) : ∀ (a b : List (List Int)) (s : σ), tellD fnd (a ++ b) s = if (tellD fnd a s).1 then tellD fnd b (tellD fnd a s).2 else (false, (tellD fnd a s).2)
  | [], _, _ => rfl
  | l :: ls, b, s => by
    show (if (fnd s l).1 = true then tellD fnd (ls ++ b) (fnd s l).2 else (false, (fnd s l).2)) = if (if (fnd s l).1 = true then tellD fnd ls (fnd s l).2 else (false, (fnd s l).2)).1 = true then tellD fnd b (if (fnd s l).1 = true then tellD fnd ls (fnd s l).2 else (false, (fnd s l).2)).2 else (false, (if (fnd s l).1 = true then tellD fnd ls (fnd s l).2 else (false, (fnd s l).2)).2)
    cases (fnd s l).1
    · rfl
    · simpa using tellD_append fnd ls b _
/-- All leaves of a search, in order. -/
def leafD (p : Dp) : Nat → List Nat → List (List Int)
  | 0, _ => []
  | k + 1, f =>
    if ((runD p false f).1.take p.doms.length).contains 0 then []
    else if labelD p.doms.length (runD p false f).1 < 0 then [solD p.doms.length (runD p false f).1]
    else (elems (nget (runD p false f).1 (labelD p.doms.length (runD p false f).1).toNat)).flatMap fun v => leafD p k ((runD p false f).1.set (labelD p.doms.length (runD p false f).1).toNat (bitN v))
/-- How many nodes it has. -/
def sizeT (p : Dp) : Nat → List Nat → Nat
  | 0, _ => 1
  | k + 1, f =>
    if ((runD p false f).1.take p.doms.length).contains 0 then 1
    else if labelD p.doms.length (runD p false f).1 < 0 then 1
    else 1 + ((elems (nget (runD p false f).1 (labelD p.doms.length (runD p false f).1).toNat)).map fun v => sizeT p k ((runD p false f).1.set (labelD p.doms.length (runD p false f).1).toNat (bitN v))).sum
/-- What a node does, if it is let through. -/
structure Whole {σ : Type} (fnd : σ → List Int → Bool × σ) (ls : List (List Int)) (n : Nat) (s : Sx σ) (r : Bool × Sx σ) : Prop where
  on : r.1 = (tellD fnd ls s.got).1
  got : r.2.got = (tellD fnd ls s.got).2
  opn : r.2.opn = s.opn
  le : r.2.nodes ≤ s.nodes + n
  all : r.1 = true → r.2.nodes = s.nodes + n
theorem Whole.go {σ : Type} {fnd : σ → List Int → Bool × σ} {step : Nat → Sx σ → Bool × Sx σ} {lf : Nat → List (List Int)} {sz : Nat → Nat} : ∀ (vs : List Nat) (s : Sx σ), s.nodes + (vs.map sz).sum ≤ 2000 →
    (∀ v ∈ vs, ∀ t : Sx σ, t.nodes + sz v ≤ 2000 → Whole fnd (lf v) (sz v) t (step v t)) → Whole fnd (vs.flatMap lf) (vs.map sz).sum s (goD step vs s)
  | [], s, _, _ => ⟨rfl, rfl, rfl, Nat.le_refl _, fun _ => rfl⟩
  | v :: vs, s, hn, h => by
    rw [List.map_cons, List.sum_cons] at hn ⊢
    have h1 := h v (by simp) s (by omega)
    rw [List.flatMap_cons]
    unfold goD
    have ht := tellD_append fnd (lf v) (vs.flatMap lf) s.got
    cases hs : (step v s).1 with
    | false =>
      rw [if_neg (by simp)]
      have h2 : (tellD fnd (lf v) s.got).1 = false := by rw [← h1.on, hs]
      rw [if_neg (by rw [h2]; simp)] at ht
      exact ⟨by rw [ht], by rw [ht]; exact h1.got, h1.opn, by have := h1.le; show (step v s).2.nodes ≤ _; omega, fun e => by cases e⟩
    | true =>
      rw [if_pos rfl]
      have h2 : (tellD fnd (lf v) s.got).1 = true := by rw [← h1.on, hs]
      have h3 := h1.all hs
      have h4 := Whole.go (fnd := fnd) (step := step) (lf := lf) (sz := sz) vs (step v s).2 (by omega) fun u hu => h u (by simp [hu])
      rw [if_pos h2, ← h1.got] at ht
      exact ⟨by rw [ht]; exact h4.on, by rw [ht]; exact h4.got, h4.opn.trans h1.opn, by have := h4.le; omega, fun e => by have := h4.all e; omega⟩
/-- With too many nodes it is open. -/
theorem open_go {σ : Type} {fnd : σ → List Int → Bool × σ} {step : Nat → Sx σ → Bool × Sx σ} {lf : Nat → List (List Int)} {sz : Nat → Nat} : ∀ (vs : List Nat) (s : Sx σ), s.nodes ≤ 2000 → 2000 < s.nodes + (vs.map sz).sum → (tellD fnd (vs.flatMap lf) s.got).1 = true →
    (∀ v ∈ vs, ∀ t : Sx σ, t.nodes + sz v ≤ 2000 → Whole fnd (lf v) (sz v) t (step v t)) → (∀ v ∈ vs, ∀ t : Sx σ, t.nodes ≤ 2000 → 2000 < t.nodes + sz v → (tellD fnd (lf v) t.got).1 = true → (step v t).1 = false ∧ (step v t).2.opn = true) →
    (goD step vs s).1 = false ∧ (goD step vs s).2.opn = true
  | [], s, h0, hn, _, _, _ => by simp at hn; omega
  | v :: vs, s, h0, hn, ht, h, h' => by
    rw [List.map_cons, List.sum_cons] at hn
    rw [List.flatMap_cons, tellD_append] at ht
    have h1 : (tellD fnd (lf v) s.got).1 = true := by
      cases hc : (tellD fnd (lf v) s.got).1 with
      | true => rfl
      | false => rw [hc, if_neg (by simp)] at ht; cases ht
    rw [if_pos h1] at ht
    unfold goD
    by_cases hle : s.nodes + sz v ≤ 2000
    · have hw := h v (by simp) s hle
      have hs : (step v s).1 = true := by rw [hw.on, h1]
      have h3 := hw.all hs
      rw [if_pos hs]
      rw [← hw.got] at ht
      exact open_go vs (step v s).2 (by omega) (by omega) ht (fun u hu => h u (by simp [hu])) (fun u hu => h' u (by simp [hu]))
    · have h2 := h' v (by simp) s h0 (by omega) h1
      rw [if_neg (by rw [h2.1]; simp)]
      exact ⟨rfl, h2.2⟩
theorem child_fok {p : Dp} (hp : probD p = true) {f : List Nat} (hf : Fok f) {v : Nat} (hv : v ∈ elems (nget (runD p false f).1 (labelD p.doms.length (runD p false f).1).toNat)) (hl : ¬ labelD p.doms.length (runD p false f).1 < 0) :
    Fok ((runD p false f).1.set (labelD p.doms.length (runD p false f).1).toNat (bitN v)) ∧ totalD ((runD p false f).1.set (labelD p.doms.length (runD p false f).1).toNat (bitN v)) < totalD f := by
  have hg : Good (runD p false f) := run_good hp hf
  have hv16 := elems16 (hg.f.lt _) hv
  refine ⟨hg.f.child _ hv16, ?_⟩
  have hn8 := (probD_parts hp).2.1
  rcases label_cases (runD p false f).1 p.doms.length with ⟨h, _⟩ | ⟨k, h, hk, h2⟩
  · rw [h] at hl; omega
  · rw [h, Int.toNat_natCast]
    exact Nat.lt_of_lt_of_le (total_child hg.f (by omega) h2 hv16) (run_total hp hf)
theorem node_whole {σ : Type} {p : Dp} (hp : probD p = true) (fnd : σ → List Int → Bool × σ) : ∀ (k : Nat) (f : List Nat) (s : Sx σ), Fok f → totalD f < k → s.nodes + sizeT p k f ≤ 2000 → Whole fnd (leafD p k f) (sizeT p k f) s (nodeD p fnd k f s)
  | 0, _, _, _, ht, _ => absurd ht (Nat.not_lt_zero _)
  | k + 1, f, s, hf, ht, hn => by
    have h1 : 1 ≤ sizeT p (k + 1) f := by unfold sizeT; split; exact Nat.le_refl _; split; exact Nat.le_refl _; omega
    rw [nodeD_succ, if_neg (by omega)]
    unfold leafD
    unfold sizeT at hn ⊢
    split
    · rename_i hc
      rw [if_pos hc] at hn
      exact ⟨rfl, rfl, rfl, Nat.le_refl _, fun _ => rfl⟩
    · rename_i hc
      rw [if_neg hc] at hn
      split
      · rename_i hl
        rw [if_pos hl] at hn
        refine ⟨?_, ?_, rfl, Nat.le_refl _, fun _ => rfl⟩
        · show (fnd s.got _).1 = (tellD fnd [_] s.got).1
          unfold tellD
          cases (fnd s.got (solD p.doms.length (runD p false f).1)).1 <;> rfl
        · show (fnd s.got _).2 = (tellD fnd [_] s.got).2
          unfold tellD
          cases (fnd s.got (solD p.doms.length (runD p false f).1)).1 <;> rfl
      · rename_i hl
        rw [if_neg hl] at hn
        have hw := Whole.go (fnd := fnd) (step := fun v s => nodeD p fnd k ((runD p false f).1.set (labelD p.doms.length (runD p false f).1).toNat (bitN v)) s)
          (lf := fun v => leafD p k ((runD p false f).1.set (labelD p.doms.length (runD p false f).1).toNat (bitN v))) (sz := fun v => sizeT p k ((runD p false f).1.set (labelD p.doms.length (runD p false f).1).toNat (bitN v)))
          (elems (nget (runD p false f).1 (labelD p.doms.length (runD p false f).1).toNat)) { s with nodes := s.nodes + 1 } (by show s.nodes + 1 + _ ≤ 2000; omega) fun v hv t ht' => by
            have hc := child_fok hp hf hv hl
            exact node_whole hp fnd k _ t hc.1 (by omega) ht'
        exact ⟨hw.on, hw.got, hw.opn, by have := hw.le; show _ ≤ s.nodes + (1 + _); have e : ({ s with nodes := s.nodes + 1 } : Sx σ).nodes = s.nodes + 1 := rfl; omega, fun e => by have := hw.all e; have e2 : ({ s with nodes := s.nodes + 1 } : Sx σ).nodes = s.nodes + 1 := rfl; omega⟩
theorem node_open {σ : Type} {p : Dp} (hp : probD p = true) (fnd : σ → List Int → Bool × σ) : ∀ (k : Nat) (f : List Nat) (s : Sx σ), Fok f → totalD f < k → s.nodes ≤ 2000 → 2000 < s.nodes + sizeT p k f → (tellD fnd (leafD p k f) s.got).1 = true → (nodeD p fnd k f s).1 = false ∧ (nodeD p fnd k f s).2.opn = true
  | 0, _, _, _, ht, _, _, _ => absurd ht (Nat.not_lt_zero _)
  | k + 1, f, s, hf, ht, h0, hn, htl => by
    rw [nodeD_succ]
    by_cases h2 : s.nodes = 2000
    · rw [if_pos h2]; exact ⟨rfl, rfl⟩
    · rw [if_neg h2]
      unfold leafD at htl
      unfold sizeT at hn
      split
      · rename_i hc
        rw [if_pos hc] at hn
        omega
      · rename_i hc
        rw [if_neg hc] at hn htl
        split
        · rename_i hl
          rw [if_pos hl] at hn
          omega
        · rename_i hl
          rw [if_neg hl] at hn htl
          exact open_go (fnd := fnd) (step := fun v s => nodeD p fnd k ((runD p false f).1.set (labelD p.doms.length (runD p false f).1).toNat (bitN v)) s)
            (lf := fun v => leafD p k ((runD p false f).1.set (labelD p.doms.length (runD p false f).1).toNat (bitN v))) (sz := fun v => sizeT p k ((runD p false f).1.set (labelD p.doms.length (runD p false f).1).toNat (bitN v)))
            (elems (nget (runD p false f).1 (labelD p.doms.length (runD p false f).1).toNat)) { s with nodes := s.nodes + 1 } (by show s.nodes + 1 ≤ 2000; omega) (by show 2000 < s.nodes + 1 + _; omega) htl
            (fun v hv t ht' => by
              have hc := child_fok hp hf hv hl
              exact node_whole hp fnd k _ t hc.1 (by omega) ht')
            (fun v hv t ht' hn' htl' => by
              have hc := child_fok hp hf hv hl
              exact node_open hp fnd k _ t hc.1 (by omega) ht' hn' htl')
/-! how many ways, and how many nodes -/
/-- How many ways to choose from the first domains. -/
def waysN : Nat → List Nat → Nat
  | 0, _ => 1
  | n + 1, f => waysN n f * sizeD (nget f n)
theorem waysN_le {f g : List Nat} : ∀ n, (∀ i, i < n → sizeD (nget g i) ≤ sizeD (nget f i)) → waysN n g ≤ waysN n f
  | 0, _ => Nat.le_refl _
  | n + 1, h => Nat.mul_le_mul (waysN_le n fun i hi => h i (by omega)) (h n (Nat.lt_succ_self _))
theorem waysN_pos {f : List Nat} : ∀ n, (∀ i, i < n → 0 < sizeD (nget f i)) → 0 < waysN n f
  | 0, _ => Nat.one_pos
  | n + 1, h => Nat.mul_pos (waysN_pos n fun i hi => h i (by omega)) (h n (Nat.lt_succ_self _))
theorem waysN_16 {f : List Nat} (hf : ∀ i, nget f i < 65536) : ∀ n, waysN n f ≤ 16 ^ n
  | 0 => Nat.le_refl _
  | n + 1 => by
    rw [Nat.pow_succ]
    exact Nat.mul_le_mul (waysN_16 hf n) (size16 (hf n))
theorem waysN_other {f : List Nat} {x d : Nat} : ∀ n, n ≤ x → waysN n (f.set x d) = waysN n f
  | 0, _ => rfl
  | n + 1, h => by
    show waysN n _ * sizeD (nget (f.set x d) n) = _
    rw [waysN_other n (by omega), nget_set, if_neg (by omega)]
    rfl
theorem waysN_set {f : List Nat} {x d : Nat} (hx : x < f.length) : ∀ n, x < n → waysN n (f.set x d) * sizeD (nget f x) = waysN n f * sizeD d
  | 0, h => absurd h (Nat.not_lt_zero _)
  | n + 1, h => by
    show waysN n (f.set x d) * sizeD (nget (f.set x d) n) * sizeD (nget f x) = waysN n f * sizeD (nget f n) * sizeD d
    rw [nget_set]
    by_cases hn : x = n
    · subst hn
      rw [if_pos ⟨rfl, hx⟩, waysN_other x (Nat.le_refl _), Nat.mul_assoc, Nat.mul_assoc, Nat.mul_comm (sizeD d)]
    · rw [if_neg fun h => hn h.1]
      have ih := waysN_set hx n (by omega) (d := d)
      rw [Nat.mul_right_comm, ih, Nat.mul_right_comm]
theorem sum_le_mul {α : Type} (f : α → Nat) (c : Nat) : ∀ (l : List α), (∀ a ∈ l, f a ≤ c) → (l.map f).sum ≤ l.length * c
  | [], _ => by simp
  | a :: l, h => by
    rw [List.map_cons, List.sum_cons, List.length_cons, Nat.succ_mul]
    have := h a (by simp)
    have := sum_le_mul f c l fun b hb => h b (by simp [hb])
    omega
/-- Of so many ways come fewer than twice as many nodes. -/
theorem size_ways {p : Dp} (hp : probD p = true) (hsub : ∀ f, Fok f → ∀ i, sizeD (nget (runD p false f).1 i) ≤ sizeD (nget f i)) : ∀ (k : Nat) (f : List Nat), Fok f → totalD f < k → (∀ i, i < p.doms.length → 0 < sizeD (nget f i)) → sizeT p k f + 1 ≤ 2 * waysN p.doms.length f
  | 0, _, _, h, _ => absurd h (Nat.not_lt_zero _)
  | k + 1, f, hf, ht, h0 => by
    have hw := waysN_pos p.doms.length h0
    have hn8 := (probD_parts hp).2.1
    have hg : Good (runD p false f) := run_good hp hf
    unfold sizeT
    split
    · omega
    · rename_i hc
      split
      · omega
      · rename_i hl
        have hle := waysN_le (f := f) (g := (runD p false f).1) p.doms.length fun i _ => hsub f hf i
        rcases label_cases (runD p false f).1 p.doms.length with ⟨h, _⟩ | ⟨x, h, hx, h2⟩
        · rw [h] at hl; omega
        · have hch := fun v hv => child_fok hp hf (v := v) hv hl
          rw [h, Int.toNat_natCast] at hch ⊢
          obtain ⟨g, hge⟩ : ∃ g, g = (runD p false f).1 := ⟨_, rfl⟩
          rw [← hge] at hle hch h2 hc ⊢
          have hg8 : g.length = 8 := by rw [hge]; exact (run_good hp hf).f.len
          have hg16 : ∀ i, nget g i < 65536 := by rw [hge]; exact (run_good hp hf).f.lt
          obtain ⟨W, hW⟩ : ∃ W, W = waysN p.doms.length (g.set x 1) := ⟨_, rfl⟩
          have hs1 : sizeD 1 = 1 := sizeD_bit (v := 0) (by decide)
          have hWs : W * sizeD (nget g x) = waysN p.doms.length g := by
            have := waysN_set (d := 1) (show x < g.length by omega) p.doms.length hx
            rw [hs1, Nat.mul_one] at this
            rw [hW]; exact this
          have hchild : ∀ v ∈ elems (nget g x), sizeT p k (g.set x (bitN v)) ≤ 2 * W - 1 := fun v hv => by
            have hv16 := elems16 (hg16 x) hv
            have hcv := hch v hv
            have hws : waysN p.doms.length (g.set x (bitN v)) = W := by
              have := waysN_set (d := bitN v) (show x < g.length by omega) p.doms.length hx
              rw [sizeD_bit (by omega), Nat.mul_one, ← hWs] at this
              exact Nat.eq_of_mul_eq_mul_right (by omega) this
            have := size_ways hp hsub k (g.set x (bitN v)) hcv.1 (by omega) fun i hi => by
              rw [nget_set]
              split
              · rw [sizeD_bit (by omega)]; exact Nat.one_pos
              · refine size_pos (hg16 i) fun e => hc ?_
                rw [List.contains_iff_mem]
                refine List.mem_iff_getElem.2 ⟨i, by rw [List.length_take]; omega, ?_⟩
                rw [List.getElem_take]
                unfold nget at e
                rw [List.getElem?_eq_getElem (by omega)] at e
                exact e
            rw [hws] at this
            omega
          have hsum := sum_le_mul (fun v => sizeT p k (g.set x (bitN v))) (2 * W - 1) (elems (nget g x)) hchild
          have hlen : (elems (nget g x)).length = sizeD (nget g x) := rfl
          rw [hlen] at hsum
          obtain ⟨c, hc2⟩ : ∃ c, c = sizeD (nget g x) := ⟨_, rfl⟩
          rw [← hc2] at hsum hWs h2
          have hWp : 0 < W := by
            rcases Nat.eq_zero_or_pos W with e | e
            · rw [e, Nat.zero_mul] at hWs
              have hgp : 0 < waysN p.doms.length g := waysN_pos _ fun i hi => by
                refine size_pos (hg16 i) fun e => hc ?_
                rw [List.contains_iff_mem]
                refine List.mem_iff_getElem.2 ⟨i, by rw [List.length_take]; omega, ?_⟩
                rw [List.getElem_take]
                unfold nget at e
                rw [List.getElem?_eq_getElem (by omega)] at e
                exact e
              omega
            · exact e
          have h3 : c * (2 * W - 1) + c = 2 * (W * c) := by
            have : c * (2 * W - 1) + c = c * (2 * W - 1 + 1) := by rw [Nat.mul_add, Nat.mul_one]
            rw [this, Nat.sub_add_cancel (by omega), Nat.mul_comm c, Nat.mul_assoc]
          omega
end Go.Proofs.YtdmmegmkdhinjaaGreatDoor
