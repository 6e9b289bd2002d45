/- The reference's way through a propagation, value by value, is that of package domain. No program in sight. -/
import Derived.Test.YtdmmegmkdhinjaaGreatDoorBG
namespace Go.Proofs.YtdmmegmkdhinjaaGreatDoor
open Go Go.RowKit

def rcutD (p : Dp) (rs : Bool) (n i : Nat) (st : Sd) (v : Nat) : Sd := if (nget st.1 (iget (drget p.rules n).vars i).toNat).testBit v then cutV p rs n i st v else st
theorem elems_16 {d : Nat} (h : d < 65536) : elems d = (List.range 16).filter d.testBit := by
  unfold elems
  rw [show (64 : Nat) = 16 + 48 from rfl, List.range_add, List.filter_append]
  have : ((List.range 48).map (16 + ·)).filter d.testBit = [] := by
    rw [List.filter_eq_nil_iff]
    intro i hi
    obtain ⟨j, _, rfl⟩ := List.mem_map.1 hi
    rw [Nat.testBit_lt_two_pow (Nat.lt_of_lt_of_le (show d < 2 ^ 16 from h) (Nat.pow_le_pow_right (by decide) (Nat.le_add_right 16 j)))]
    simp
  rw [this, List.append_nil]
theorem cutV_len (p : Dp) (rs : Bool) (n i : Nat) (st : Sd) (v : Nat) : (cutV p rs n i st v).1.length = st.1.length := by
  unfold cutV
  simp only
  split
  · rfl
  · exact List.length_set
theorem rcut_yes {p : Dp} {rs : Bool} {n i x v : Nat} {st : Sd} (hx : iget (drget p.rules n).vars i = x) (h : (nget st.1 x).testBit v = true) : rcutD p rs n i st v = cutV p rs n i st v := by
  unfold rcutD; rw [hx, Int.toNat_natCast, if_pos h]
theorem rcut_no {p : Dp} {rs : Bool} {n i x v : Nat} {st : Sd} (hx : iget (drget p.rules n).vars i = x) (h : (nget st.1 x).testBit v = false) : rcutD p rs n i st v = st := by
  unfold rcutD; rw [hx, Int.toNat_natCast, if_neg (by rw [h]; decide)]
theorem rcut_fold {p : Dp} {rs : Bool} {n i x d : Nat} (hx : iget (drget p.rules n).vars i = x) : ∀ (vs : List Nat) {st : Sd}, x < st.1.length → vs.Nodup → (∀ v ∈ vs, (nget st.1 x).testBit v = d.testBit v) →
    vs.foldl (rcutD p rs n i) st = (vs.filter d.testBit).foldl (cutV p rs n i) st
  | [], _, _, _, _ => rfl
  | v :: vs, st, hl, hn, hm => by
    have hnd := List.nodup_cons.1 hn
    have h0 := hm v (by simp)
    rw [List.foldl_cons, List.filter_cons]
    cases hv : d.testBit v
    · rw [rcut_no hx (h0.trans hv), if_neg (by decide)]
      exact rcut_fold hx vs hl hnd.2 (fun u hu => hm u (by simp [hu]))
    · rw [rcut_yes hx (h0.trans hv), if_pos rfl, List.foldl_cons]
      exact rcut_fold hx vs (by rw [cutV_len]; exact hl) hnd.2 (fun u hu => by
        rw [cutV_bit hx hl (fun e => hnd.1 (by rw [← e]; exact hu))]; exact hm u (by simp [hu]))
theorem sweep_ref {p : Dp} {rs : Bool} {n i x : Nat} {st : Sd} (hx : iget (drget p.rules n).vars i = x) (hl : x < st.1.length) (hlt : nget st.1 x < 65536) : (List.range' 0 16).foldl (rcutD p rs n i) st = sweepD p rs n i st := by
  unfold sweepD
  rw [hx, Int.toNat_natCast, elems_16 hlt, ← List.range_eq_range']
  exact rcut_fold hx _ hl List.nodup_range (fun _ _ => rfl)
theorem rcut_zero {p : Dp} {rs : Bool} {n i x : Nat} (hx : iget (drget p.rules n).vars i = x) : ∀ (vs : List Nat) {st : Sd}, nget st.1 x = 0 → vs.foldl (rcutD p rs n i) st = st
  | [], _, _ => rfl
  | v :: vs, st, h => by
    rw [List.foldl_cons, rcut_no hx (by rw [h, Nat.zero_testBit])]
    exact rcut_zero hx vs h
theorem cut_drop {p : Dp} {rs : Bool} {n i x v : Nat} {st : Sd} (h : Good st) (hx : iget (drget p.rules n).vars i = x) (hx8 : x < 8) (hv : v ∈ elems (nget st.1 x)) (hs : suppD st.1 (drget p.rules n) i v = false) :
    cutV p rs n i st v = (st.1.set x (sDiff (nget st.1 x) (bitN v)), if rs then st.2 ++ [reasonD p st.2 ⟨(x : Int), v, n, []⟩] else st.2) ∧ totalD (st.1.set x (sDiff (nget st.1 x) (bitN v))) + 1 = totalD st.1 := by
  constructor
  · unfold cutV
    simp only [hx, Int.toNat_natCast]
    rw [if_neg (by rw [hs]; decide)]
  · have ht := total_set st.1 x (sDiff (nget st.1 x) (bitN v)) (by rw [h.f.len]; exact hx8)
    have hsz := size_diff hv
    omega
theorem cut_keep {p : Dp} {rs : Bool} {n i v : Nat} {st : Sd} (hs : suppD st.1 (drget p.rules n) i v = true) : cutV p rs n i st v = st := by
  unfold cutV
  simp only
  rw [if_pos hs]
theorem padD_set {l : List Nat} {x : Nat} (u : Nat) (hx : x < l.length) : (padD l).set x u = padD (l.set x u) := by
  unfold padD
  rw [List.set_append_left _ _ hx, List.length_set]
/-- The flag 'changed', and what it says. -/
structure ChD (st st' : Sd) (ch : Bool) : Prop where
  flag : ch = decide (totalD st'.1 < totalD st.1)
  le : totalD st'.1 ≤ totalD st.1
  same : ¬ totalD st'.1 < totalD st.1 → st'.1 = st.1
theorem ChD.refl (st : Sd) : ChD st st false := ⟨by rw [decide_eq_false (Nat.lt_irrefl _)], Nat.le_refl _, fun _ => rfl⟩
theorem ChD.down {st st' st2 : Sd} {ch : Bool} (h : ChD st st' ch) (hd : totalD st2.1 + 1 = totalD st'.1) : ChD st st2 true := by
  have := h.le
  exact ⟨by rw [decide_eq_true (by omega)], by omega, fun hh => absurd (by omega) hh⟩
/-- A domain is empty: the propagation ends there. -/
theorem stop_at {p : Dp} {rs : Bool} {n i x : Nat} {is ns : List Nat} {st stj sti s R : Sd} {k : Nat} (hx : iget (drget p.rules n).vars i = x)
    (h1 : sweepD p rs n i sti = s) (h0 : nget s.1 x = 0) (h2 : placesD p rs n (i :: is) sti = placesD p rs n (List.range (drget p.rules n).vars.length) stj)
    (h3 : rulesD p rs (n :: ns) stj = rulesD p rs (List.range p.rules.length) st) (h4 : roundsD p rs (k + 1) st = R) : s = R := by
  have hp : placesD p rs n (i :: is) sti = (s, false) := by
    rw [placesD_cons, h1, hx, Int.toNat_natCast, if_pos h0]
  have hr : rulesD p rs (n :: ns) stj = (s, false) := by
    rw [rulesD_cons, ← h2, hp]; rfl
  rw [← h4, roundsD_succ, ← h3, hr]; rfl
theorem range_at {i m : Nat} (h : i < m) : List.range' i (m - i) = i :: List.range' (i + 1) (m - (i + 1)) := by
  rw [show m - i = (m - (i + 1)) + 1 by omega, range_cons]
theorem stop_here {p : Dp} {rs : Bool} {n i x m g : Nat} {st stj sti s R : Sd} (hm : m = (drget p.rules n).vars.length) (hi : i < m) (hn : n < p.rules.length) (hg : totalD st.1 < g) (hx : iget (drget p.rules n).vars i = x)
    (h1 : s = sweepD p rs n i sti) (h0 : nget s.1 x = 0) (h2 : placesD p rs n (List.range' i (m - i)) sti = placesD p rs n (List.range m) stj)
    (h3 : rulesD p rs (List.range' n (p.rules.length - n)) stj = rulesD p rs (List.range p.rules.length) st) (h4 : roundsD p rs g st = R) : s = R := by
  obtain ⟨k, rfl⟩ : ∃ k, g = k + 1 := ⟨g - 1, by omega⟩
  subst hm
  rw [range_at hi] at h2
  rw [range_at hn] at h3
  exact stop_at hx h1.symm h0 h2 h3 h4
theorem next_rule {p : Dp} {rs : Bool} {n m : Nat} {st stj sti : Sd} (hm : m = (drget p.rules n).vars.length) (hn : n < p.rules.length) (h2 : placesD p rs n (List.range' m (m - m)) sti = placesD p rs n (List.range m) stj)
    (h3 : rulesD p rs (List.range' n (p.rules.length - n)) stj = rulesD p rs (List.range p.rules.length) st) : rulesD p rs (List.range' (n + 1) (p.rules.length - (n + 1))) sti = rulesD p rs (List.range p.rules.length) st := by
  subst hm
  rw [Nat.sub_self] at h2
  have h2 : placesD p rs n (List.range (drget p.rules n).vars.length) stj = (sti, true) := h2.symm
  rw [← h3, range_at hn, rulesD_cons, h2]; rfl
theorem next_round {p : Dp} {rs : Bool} {g : Nat} {st stj R : Sd} (hg : totalD st.1 < g) (h3 : rulesD p rs (List.range' p.rules.length (p.rules.length - p.rules.length)) stj = rulesD p rs (List.range p.rules.length) st) (h4 : roundsD p rs g st = R) :
    (if stj.1 = st.1 then stj else roundsD p rs (g - 1) stj) = R := by
  obtain ⟨k, rfl⟩ : ∃ k, g = k + 1 := ⟨g - 1, by omega⟩
  rw [Nat.sub_self] at h3
  have h3 : rulesD p rs (List.range p.rules.length) st = (stj, true) := h3.symm
  rw [← h4, roundsD_succ, h3]; rfl
/-- No domain is empty. -/
def NzD (n : Nat) (l : List Nat) : Prop := ∀ y, y < n → nget l y ≠ 0
theorem NzD.set {n : Nat} {l : List Nat} (h : NzD n l) (x : Nat) {u : Nat} (hu : u ≠ 0) : NzD n (l.set x u) := fun y hy => by
  rw [nget_set]
  split
  · exact hu
  · exact h y hy
end Go.Proofs.YtdmmegmkdhinjaaGreatDoor
