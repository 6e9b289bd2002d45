/- The reference's search is that of package domain, in plain Lean. No program in sight. -/
import Derived.Test.YtdmmegmkdhinjaaGreatDoorPlainS
import Derived.Test.YtdmmegmkdhinjaaGreatDoorBI
namespace Go.Proofs.YtdmmegmkdhinjaaGreatDoor
open Go Go.RowKit

abbrev Sq := Sx (List (List Int))
theorem pad_take0 (l : List Nat) : (padD l).take l.length = l := by unfold padD; simp
/-- The search goes on. -/
def GoOn (most : Int) (s : Sq) : Prop := s.opn = false ∧ (s.got.length : Int) < most
theorem goD_flag {most : Int} {step : Nat → Sq → Bool × Sq} : ∀ (vs : List Nat) (s : Sq), GoOn most s → (∀ v ∈ vs, ∀ s, GoOn most s → ((step v s).1 = true ↔ GoOn most (step v s).2)) → ((goD step vs s).1 = true ↔ GoOn most (goD step vs s).2)
  | [], s, h, _ => ⟨fun _ => h, fun _ => rfl⟩
  | v :: vs, s, h, hs => by
    have h1 := hs v (by simp) s h
    unfold goD
    split
    · rename_i hh
      exact goD_flag vs _ (h1.1 hh) fun u hu => hs u (by simp [hu])
    · rename_i hh
      exact ⟨fun hc => (by cases hc), fun hc => absurd (h1.2 hc) hh⟩
theorem label_lt {n : Nat} {g : List Nat} (h : ¬ labelD n g < 0) : ∃ k : Nat, labelD n g = k ∧ k < n ∧ 2 ≤ sizeD (nget g k) := by
  rcases label_cases g n with ⟨h1, _⟩ | h1
  · omega
  · exact h1
theorem nodeD_flag {p : Dp} (hpo : probD p = true) (most : Int) : ∀ (k : Nat) (f : List Nat) (s : Sq), totalD f < k → Fok f → GoOn most s → ((nodeD p (solveF most) k f s).1 = true ↔ GoOn most (nodeD p (solveF most) k f s).2)
  | 0, _, _, h, _, _ => absurd h (Nat.not_lt_zero _)
  | k + 1, f, s, ht, hf, hg => by
    rw [nodeD_succ]
    have hgd := (run_good (rs := false) hpo hf).f
    have htl := run_total (rs := false) hpo hf
    have hn8 := (probD_parts hpo).2.1
    split
    · exact ⟨fun h => (by cases h), fun h => (by have := h.1; cases this)⟩
    · split
      · exact ⟨fun _ => hg, fun _ => rfl⟩
      · split
        · constructor
          · intro h
            have h : decide (((s.got.length + 1 : Nat) : Int) < most) = true := h
            refine ⟨hg.1, ?_⟩
            show (((s.got ++ [_]).length : Nat) : Int) < most
            rw [List.length_append]
            exact of_decide_eq_true h
          · intro h
            have h2 : (((s.got ++ [_]).length : Nat) : Int) < most := h.2
            rw [List.length_append] at h2
            exact decide_eq_true h2
        · rename_i hl
          obtain ⟨x, hx, hxn, h2⟩ := label_lt hl
          rw [hx, Int.toNat_natCast]
          refine goD_flag _ _ hg fun v hv s' hs' => nodeD_flag hpo most k _ s' ?_ (hgd.child x (elems16 (hgd.lt x) hv)) hs'
          have := total_child hgd (x := v) (k := x) (by omega) h2 (elems16 (hgd.lt x) hv)
          omega
/-- So many solutions at most. -/
theorem nodeD_few (p : Dp) (most : Int) : ∀ (k : Nat) (f : List Nat) (s : Sq), s.got.length ≤ s.nodes → (nodeD p (solveF most) k f s).2.got.length ≤ (nodeD p (solveF most) k f s).2.nodes
  | 0, _, _, h => h
  | k + 1, f, s, h => by
    rw [nodeD_succ]
    split
    · exact h
    · split
      · exact Nat.le_succ_of_le h
      · split
        · show (s.got ++ [_]).length ≤ s.nodes + 1
          rw [List.length_append]; simp; exact h
        · exact goD_ind (Q := fun s : Sq => s.got.length ≤ s.nodes) _ _ (Nat.le_succ_of_le h) fun v _ s hs => nodeD_few p most k _ s hs

/-! what the rest of a search's loop comes to -/
def RestD (most : Int) (step : Nat → Sq → Bool × Sq) (d v : Nat) (R s : Sq) : Prop :=
  (GoOn most s → (goD step ((List.range' v (16 - v)).filter d.testBit) s).2 = R) ∧ (¬ GoOn most s → s = R)
theorem RestD.start {most : Int} {step : Nat → Sq → Bool × Sq} {d : Nat} (hd : d < 65536) {s : Sq} (hg : GoOn most s) : RestD most step d 0 (goD step (elems d) s).2 s :=
  ⟨fun _ => by rw [elems_16 hd, List.range_eq_range'], fun h => absurd hg h⟩
theorem RestD.skip {most : Int} {step : Nat → Sq → Bool × Sq} {d v : Nat} {R s : Sq} (h : RestD most step d v R s) (hv : v < 16) (hb : d.testBit v = false) : RestD most step d (v + 1) R s := by
  refine ⟨fun hg => ?_, h.2⟩
  have := h.1 hg
  rw [range_at hv, List.filter_cons, if_neg (by rw [hb]; decide)] at this
  exact this
theorem RestD.take {most : Int} {step : Nat → Sq → Bool × Sq} {d v : Nat} {R s : Sq} (h : RestD most step d v R s) (hv : v < 16) (hb : d.testBit v = true) (hg : GoOn most s) (hf : (step v s).1 = true ↔ GoOn most (step v s).2) : RestD most step d (v + 1) R (step v s).2 := by
  have h1 := h.1 hg
  rw [range_at hv, List.filter_cons, if_pos hb] at h1
  unfold goD at h1
  constructor
  · intro hg2
    rw [if_pos (hf.2 hg2)] at h1
    exact h1
  · intro hg2
    rw [if_neg (fun hc => hg2 (hf.1 hc))] at h1
    exact h1
theorem RestD.fin {most : Int} {step : Nat → Sq → Bool × Sq} {d v : Nat} {R s : Sq} (h : RestD most step d v R s) (he : ¬ v < 16 ∨ ¬ GoOn most s) (hv : v ≤ 16) : s = R := by
  by_cases hg : GoOn most s
  · have hv2 : v = 16 := by rcases he with he | he
                            · omega
                            · exact absurd hg he
    subst hv2
    exact h.1 hg
  · exact h.2 hg

/-! other domains, the same rules -/
theorem cut_rules {p q : Dp} (h : p.rules = q.rules) (n i : Nat) (st : Sd) (v : Nat) : cutV p false n i st v = cutV q false n i st v := by
  unfold cutV; rw [h]; rfl
theorem sweep_rules {p q : Dp} (h : p.rules = q.rules) (n i : Nat) (st : Sd) : sweepD p false n i st = sweepD q false n i st := by
  unfold sweepD
  rw [h, show cutV p false n i = cutV q false n i from funext fun st => funext fun v => cut_rules h n i st v]
theorem places_rules {p q : Dp} (h : p.rules = q.rules) (n : Nat) : ∀ (is : List Nat) (st : Sd), placesD p false n is st = placesD q false n is st
  | [], _ => rfl
  | i :: is, st => by rw [placesD_cons, placesD_cons, sweep_rules h, h, places_rules h n is]
theorem rules_rules {p q : Dp} (h : p.rules = q.rules) : ∀ (ns : List Nat) (st : Sd), rulesD p false ns st = rulesD q false ns st
  | [], _ => rfl
  | n :: ns, st => by rw [rulesD_cons, rulesD_cons, places_rules h, h, rules_rules h ns]
theorem rounds_rules {p q : Dp} (h : p.rules = q.rules) : ∀ (k : Nat) (st : Sd), roundsD p false k st = roundsD q false k st
  | 0, _ => rfl
  | k + 1, st => by rw [roundsD_succ, roundsD_succ, rules_rules h, h, rounds_rules h k]
theorem run_rules {p q : Dp} (h : p.rules = q.rules) (hl : p.doms.length = q.doms.length) (f : List Nat) : runD p false f = runD q false f := by
  unfold runD; rw [hl, rounds_rules h]
theorem probD_doms {p : Dp} (h : probD p = true) {all : List Nat} (hl : all.length = p.doms.length) (hb : ∀ i, nget all i < 65536) : probD ⟨all, p.rules⟩ = true := by
  have hp := probD_parts h
  refine probD_yes ?_ (by show (p.rules.length : Int) ≤ 12; have := hp.2.2.1; omega) (fun j _ => hb j) (fun j hj => by show ruleD (drget p.rules j) (all.length : Nat) = true; rw [hl]; exact hp.2.2.2.2 j hj)
  show inB (all.length : Nat) 1 8 = true
  rw [hl]; unfold inB; simp; omega
theorem padD_fok {all : List Nat} (hl : all.length ≤ 8) (hb : ∀ i, nget all i < 65536) : Fok (padD all) := ⟨padD_length hl, fun i => by rw [padD_get]; exact hb i⟩
theorem elems_one {d : Nat} (hd : d < 65536) (h0 : d ≠ 0) (h : sizeD d < 2) : elems d = [ctzN d] := by
  have hs := elems_step h0 (Nat.lt_trans hd (by decide) : U64 d)
  unfold sizeD at h
  rw [hs] at h ⊢
  have : elems (sAnd d (pred1 d)) = [] := List.length_eq_zero_iff.1 (by rw [List.length_cons] at h; omega)
  rw [this]
theorem labelD_pad (l : List Nat) : ∀ n, labelD n (padD l) = labelD n l
  | 0 => rfl
  | n + 1 => by rw [label_succ, label_succ, labelD_pad l n, padD_get, padD_get]
theorem contains_nz {n : Nat} {g l : List Nat} (hg : g = padD l) (hl : l.length = n) (h : NzD n l) : (g.take n).contains 0 = false := by
  rw [hg, ← hl, pad_take0]
  rw [Bool.eq_false_iff]
  intro hc
  rw [List.contains_iff_mem] at hc
  obtain ⟨k, hk, e⟩ := List.mem_iff_getElem.1 hc
  exact h k (by omega) (by simp [nget, hk, e])
theorem contains_z {n k : Nat} {g l : List Nat} (hg : g = padD l) (hl : l.length = n) (hk : k < n) (h : nget l k = 0) : (g.take n).contains 0 = true := by
  rw [hg, ← hl, pad_take0, List.contains_iff_mem, ← h]
  subst hl
  simp [nget, hk]
end Go.Proofs.YtdmmegmkdhinjaaGreatDoor
