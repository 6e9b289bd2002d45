/- With the rules of a cut's core no way to choose has the value that was cut. In plain Lean. -/
import Derived.Test.YtdmmegmkdhinjaaGreatDoorPlainL
import Derived.Test.YtdmmegmkdhinjaaGreatDoorPlainZ
import Derived.Test.YtdmmegmkdhinjaaGreatDoorDCoreB
namespace Go.Proofs.YtdmmegmkdhinjaaGreatDoor
open Go Go.RowKit

theorem hasD_ltN {d k : Nat} (h : k < 16) : hasD d (k : Int) = d.testBit k := by
  unfold hasD inB
  rw [Int.toNat_natCast, decide_eq_true (show (0 : Int) ≤ (k : Int) by omega), decide_eq_true (show (k : Int) ≤ 15 by omega)]; rfl
theorem cget_takeL (l : List Cut) {i k : Nat} (h : k < i) : cget (l.take i) k = cget l k := by unfold cget; rw [List.getElem?_take, if_pos h]
theorem right_parts {p : Dp} {l : List Cut} {c : Cut} (h : rightD p l c = true) : (∃ j : Nat, c.rule = j ∧ j < p.rules.length) ∧ c.var ∈ (drget p.rules c.rule.toNat).vars ∧ hasD (nget p.doms c.var.toNat) c.value = true ∧
    (∀ k ∈ c.why, ∃ j : Nat, k = j ∧ j < l.length) ∧ explD p l c = true := by
  unfold rightD at h
  simp only [Bool.and_eq_true] at h
  obtain ⟨⟨⟨⟨⟨⟨h1, h2⟩, h3⟩, h4⟩, _⟩, _⟩, h7⟩ := h
  refine ⟨inB_nat h1, ?_, h3, fun k hk => ?_, h7⟩
  · unfold ihas at h2; exact List.contains_iff_mem.1 h2
  · unfold allB at h4
    exact inB_nat (List.all_eq_true.1 h4 k hk)
/-- A right cut takes no value of a solution that its reasons leave. -/
theorem cut_not {p : Dp} (hp : probD p = true) {l : List Cut} {c : Cut} (hr : rightD p l c = true) (hf : ∀ k, k < l.length → CFit (cget l k)) {vs : List Nat} (hi : InD p.doms vs)
    (hh : holdsD (drget p.rules c.rule.toNat) (ownOf (vs.map natI) (drget p.rules c.rule.toNat).vars) = true) (hw : ∀ k ∈ c.why, ∀ y, ¬ Takes (cget l k.toNat) y (nget vs y)) (y : Nat) : ¬ Takes c y (nget vs y) := by
  intro ht
  obtain ⟨⟨j, hj, hjl⟩, hvar, _, hwhy, hex⟩ := right_parts hr
  have hrd := (probD_parts hp).2.2.2.2 j hjl
  rw [hj, Int.toNat_natCast] at hvar hh
  have h16 := inD_lt hi (probD_parts hp).2.2.2.1
  have hvars := (ruleD_parts hrd).2.2.1
  unfold explD at hex
  rw [hj, Int.toNat_natCast, ht.1, ht.2] at hex
  rw [ht.1] at hvar
  obtain ⟨a, ha, hae⟩ : ∃ a, a < (drget p.rules j).vars.length ∧ iget (drget p.rules j).vars a = y := by
    obtain ⟨a, ha, e⟩ := List.mem_iff_getElem.1 hvar
    exact ⟨a, ha, by unfold iget; rw [List.getElem?_eq_getElem ha]; exact e⟩
  rw [← hae, idx_at hrd ha] at hex
  have hbit : ∀ z, z < p.doms.length → (nget (whyF p l c) z).testBit (nget vs z) = true := fun z hz => by
    unfold whyF
    rw [whyFold_bit _ (fun k hk => by obtain ⟨i, rfl, hil⟩ := hwhy k hk; rw [Int.toNat_natCast]; exact hf i hil) (padD_length (probD_parts hp).2.1), padD_get]
    exact ⟨hi.2 z hz, fun k hk hc => hw k hk z hc.2⟩
  have hwlt : ∀ z, nget (whyF p l c) z < 65536 := whyFold_lt c.why (padD_ok hp).lt
  have hown : (ownN vs (drget p.rules j).vars).length = (drget p.rules j).vars.length := by unfold ownN; rw [List.length_map]
  have hgy : nget (ownN vs (drget p.rules j).vars) a = nget vs y := by rw [ownN_get vs _ ha, hae, Int.toNat_natCast]
  have hv16 := nget_lt16 h16 y
  have : suppD (whyF p l c) (drget p.rules j) a ((nget vs y : Nat) : Int) = true := by
    unfold suppD
    rw [Bool.and_eq_true, ofD_get _ _ ha, hae, Int.toNat_natCast, Int.toNat_natCast]
    have hya := hvars a ha
    rw [hae] at hya
    refine ⟨by rw [hasD_ltN hv16]; exact hbit y (by omega), ?_⟩
    refine poss_of_holds hrd (vs := ownN vs (drget p.rules j).vars) (by rw [List.length_set, ofD_length]) (set_lt (fun k => ofD_lt2 hwlt _ k) (bit16 hv16)) ⟨by rw [List.length_set, ofD_length, hown], fun k hk => ?_⟩ (by rw [← ownOf_nat]; exact hh)
    rw [List.length_set, ofD_length] at hk
    rw [nget_set, ofD_length]
    by_cases hak : a = k
    · subst hak
      rw [if_pos ⟨rfl, ha⟩, hgy, bitN_testBit]; simp
    · rw [if_neg fun h => hak h.1, ofD_get _ _ hk, ownN_get vs _ hk]
      have := hvars k hk
      exact hbit _ (by omega)
  rw [this] at hex; cases hex
theorem core_rules {p : Dp} {l : List Cut} {n : Nat} {r : Int} : r ∈ coreD p l n ↔ ∃ j : Nat, r = j ∧ j < p.rules.length ∧ natI j ∈ (visC l (n + 1) n ([], [])).2 := by
  unfold coreD
  rw [List.mem_map]
  constructor
  · rintro ⟨j, hj, rfl⟩
    rw [List.mem_filter, List.mem_range] at hj
    exact ⟨j, rfl, hj.1, by have := hj.2; rwa [List.contains_iff_mem] at this⟩
  · rintro ⟨j, rfl, h1, h2⟩
    exact ⟨j, by rw [List.mem_filter, List.mem_range, List.contains_iff_mem]; exact ⟨h1, h2⟩, rfl⟩
theorem prop_rlog {p : Dp} (hp : probD p = true) : RLog p (propD p).2 := rlog_of hp (by rw [prop_right hp]; decide)
theorem hang_core {p : Dp} (hp : probD p = true) {n : Nat} (hn : n < (propD p).2.length) {i : Nat} (h : Hang (propD p).2 n i) : (cget (propD p).2 i).rule ∈ coreD p (propD p).2 n := by
  have hrl := prop_rlog hp
  obtain ⟨⟨j, hj, hjl⟩, _⟩ := hrl i (Hang.lt hrl hn h)
  rw [core_rules]
  refine ⟨j, hj, hjl, (vis_hang hrl hn _).2 ⟨i, h, ?_⟩⟩
  rw [hj]; rfl
/-- No solution of the core's rules has the value that was cut. -/
theorem core_none {p : Dp} (hp : probD p = true) {n : Nat} (hn : n < (propD p).2.length) {vs : List Nat} (hi : InD p.doms vs)
    (hh : ∀ j : Nat, (j : Int) ∈ coreD p (propD p).2 n → holdsD (drget p.rules j) (ownOf (vs.map natI) (drget p.rules j).vars) = true) (y : Nat) : ¬ Takes (cget (propD p).2 n) y (nget vs y) := by
  have hrl := prop_rlog hp
  have hlog := prop_log hp
  have key : ∀ i, Hang (propD p).2 n i → ∀ y, ¬ Takes (cget (propD p).2 i) y (nget vs y) := by
    intro i
    induction i using Nat.strongRecOn with
    | _ i ih =>
      intro h
      have hil := Hang.lt hrl hn h
      have hright := hlog.right i hil
      obtain ⟨⟨j, hj, hjl⟩, _, _, hwhy, _⟩ := right_parts hright
      have hcore := hang_core hp hn h
      rw [hj] at hcore
      refine cut_not hp hright (fun k hk => ?_) hi (by rw [hj, Int.toNat_natCast]; exact hh j hcore) fun k hk => ?_
      · rw [List.length_take] at hk
        rw [cget_takeL _ (by omega)]
        exact hlog.good.fit k (by omega)
      · obtain ⟨m, rfl, hm⟩ := hwhy k hk
        rw [List.length_take] at hm
        rw [Int.toNat_natCast, cget_takeL _ (by omega)]
        exact ih m (by omega) (by have := h.step hk; rwa [Int.toNat_natCast] at this)
  exact key n (Hang.start _ _) y
/-- The core is a row of rules' numbers, going up. -/
theorem core_few (p : Dp) (l : List Cut) (n : Nat) : (coreD p l n).length ≤ p.rules.length := by
  unfold coreD
  rw [List.length_map]
  exact Nat.le_trans (List.length_filter_le _ _) (by rw [List.length_range]; exact Nat.le_refl _)
theorem core_up (p : Dp) (l : List Cut) (n : Nat) : (coreD p l n).Pairwise (· < ·) := by
  unfold coreD
  rw [List.pairwise_map]
  refine List.Pairwise.imp ?_ (List.Pairwise.filter _ List.pairwise_lt_range)
  intro a b h
  unfold natI
  omega
/-- The problem with the core's rules. -/
def coreP (p : Dp) (ns : List Int) : Dp := ⟨p.doms, ns.map fun r => drget p.rules r.toNat⟩
theorem coreP_ok {p : Dp} (hp : probD p = true) (n : Nat) (l : List Cut) (k : Nat) : probD (coreP p ((coreD p l n).take k)) = true := by
  have hpp := probD_parts hp
  have hfew := core_few p l n
  have hl : (coreP p ((coreD p l n).take k)).rules.length ≤ p.rules.length := by
    show (List.map _ _).length ≤ _
    rw [List.length_map, List.length_take]; omega
  refine probD_yes (by show inB (p.doms.length : Nat) 1 8 = true; unfold inB; simp; omega) (by omega) (fun j _ => hpp.2.2.2.1 j) fun j hj => ?_
  have hj' : j < ((coreD p l n).take k).length := by
    have : (coreP p ((coreD p l n).take k)).rules.length = ((coreD p l n).take k).length := List.length_map _
    omega
  have hm := List.mem_of_mem_take (List.getElem_mem hj')
  obtain ⟨m, hm1, hm2, _⟩ := core_rules.1 hm
  have : drget (coreP p ((coreD p l n).take k)).rules j = drget p.rules m := by
    unfold drget coreP
    rw [List.getElem?_map, List.getElem?_eq_getElem hj']
    show drget p.rules (((coreD p l n).take k)[j]).toNat = _
    rw [hm1, Int.toNat_natCast]; rfl
  rw [this]
  exact hpp.2.2.2.2 m hm2
end Go.Proofs.YtdmmegmkdhinjaaGreatDoor
