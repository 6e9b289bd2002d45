/- What a propagation leaves holds every solution, and each value that is left has a witness. In plain Lean. -/
import Derived.Test.YtdmmegmkdhinjaaGreatDoorHolds
import Derived.Test.YtdmmegmkdhinjaaGreatDoorPlainY
namespace Go.Proofs.YtdmmegmkdhinjaaGreatDoor
open Go Go.RowKit

/-- The values of a rule's variables, as numbers. -/
def ownN (vs : List Nat) (vars : List Int) : List Nat := vars.map fun x => nget vs x.toNat
theorem iget_nat (vs : List Nat) (i : Nat) : iget (vs.map natI) i = (nget vs i : Int) := by
  unfold iget nget
  rw [List.getElem?_map]
  cases vs[i]? <;> rfl
theorem ownOf_nat (vs : List Nat) (vars : List Int) : ownOf (vs.map natI) vars = (ownN vs vars).map natI := by
  unfold ownOf ownN
  rw [List.map_map]
  exact List.map_congr_left fun x _ => iget_nat _ _
theorem ownN_get (vs : List Nat) (vars : List Int) {i : Nat} (h : i < vars.length) : nget (ownN vs vars) i = nget vs (iget vars i).toNat := by
  unfold ownN nget iget
  simp [h]
theorem inD_lt {ds vs : List Nat} (h : InD ds vs) (hb : ∀ i, nget ds i < 65536) : ∀ v ∈ vs, v < 16 := fun v hv => by
  obtain ⟨i, hil, rfl⟩ := List.mem_iff_getElem.1 hv
  have := h.2 i (by rw [← h.1]; exact hil)
  rw [show nget vs i = vs[i] by simp [nget, hil]] at this
  exact bit_lt16 (hb i) this
theorem nget_lt16 {vs : List Nat} (h : ∀ v ∈ vs, v < 16) (i : Nat) : nget vs i < 16 := by
  unfold nget
  by_cases hi : i < vs.length
  · rw [List.getElem?_eq_getElem hi]; exact h _ (List.getElem_mem hi)
  · rw [List.getElem?_eq_none (by omega)]; decide
theorem mem_drget {l : List Dr} {r : Dr} (h : r ∈ l) : ∃ n, n < l.length ∧ drget l n = r := by
  obtain ⟨n, hn, rfl⟩ := List.mem_iff_getElem.1 h
  exact ⟨n, hn, by unfold drget; rw [List.getElem?_eq_getElem hn]; rfl⟩
theorem pad_bits {p : Dp} {vs : List Nat} (hl : vs.length = p.doms.length) {x : Nat} (hx : x < p.doms.length) : nget (padD (vs.map bitN)) x = bitN (nget vs x) := by
  rw [padD_get, bits_nget vs (by omega)]
/-- What holds everywhere is closed. -/
theorem closed_sol {p : Dp} (hp : probD p = true) {vs : List Nat} (hl : vs.length = p.doms.length) (h16 : ∀ v ∈ vs, v < 16) (hh : allHold p (vs.map natI) = true) : Closed p.rules (padD (vs.map bitN)) := by
  intro r hr i hi v hv
  obtain ⟨n, hn, rfl⟩ := mem_drget hr
  have hrd := (probD_parts hp).2.2.2.2 n hn
  have hvars := (ruleD_parts hrd).2.2.1
  have hx := hvars i hi
  rw [pad_bits hl (by omega), bitN_testBit] at hv
  have hv : nget vs (iget (drget p.rules n).vars i).toNat = v := by simpa using hv
  have hof : ofD (padD (vs.map bitN)) (drget p.rules n).vars = (ownN vs (drget p.rules n).vars).map bitN := by
    unfold ofD ownN
    rw [List.map_map]
    refine List.map_congr_left fun x hx => ?_
    obtain ⟨k, hk, rfl⟩ := List.mem_iff_getElem.1 hx
    have := hvars k hk
    rw [show iget (drget p.rules n).vars k = (drget p.rules n).vars[k] by unfold iget; rw [List.getElem?_eq_getElem hk]; rfl] at this
    exact pad_bits hl (by omega)
  have hlen : (ownN vs (drget p.rules n).vars).length = (drget p.rules n).vars.length := by unfold ownN; rw [List.length_map]
  have hget : nget ((ownN vs (drget p.rules n).vars).map bitN) i = bitN v := by rw [bits_nget _ (by rw [hlen]; exact hi), ownN_get vs _ hi, hv]
  have h16v : v < 16 := by rw [← hv]; exact nget_lt16 h16 _
  unfold suppD
  rw [hof, hget, Bool.and_eq_true]
  refine ⟨?_, ?_⟩
  · unfold hasD inB
    rw [Int.toNat_natCast, bitN_testBit]
    simp; omega
  · rw [Int.toNat_natCast]
    have hset : ((ownN vs (drget p.rules n).vars).map bitN).set i (bitN v) = (ownN vs (drget p.rules n).vars).map bitN := by
      refine nat_ext (by rw [List.length_set]) fun j _ => ?_
      rw [nget_set]
      split
      · rename_i h; rw [← h.1, hget]
      · rfl
    rw [hset, poss_sing hrd (by rw [hlen]) (fun u hu => by
      obtain ⟨x, _, rfl⟩ := List.mem_map.1 hu
      exact nget_lt16 h16 _)]
    have := List.all_eq_true.1 hh _ hr
    rwa [ownOf_nat] at this
theorem sound_in {p : Dp} (hp : probD p = true) {vs : List Nat} (hi : InD p.doms vs) (hh : allHold p (vs.map natI) = true) : ∀ i, i < p.doms.length → (nget (propD p).1 i).testBit (nget vs i) = true := by
  intro i hi'
  have h16 := inD_lt hi (probD_parts hp).2.2.2.1
  have := run_over (p := p) (rs := true) hp (g := padD (vs.map bitN)) (f := padD p.doms) (fun j => by
    rw [padD_get]
    by_cases hj : j < vs.length
    · rw [bits_nget vs hj]; exact bit16 (nget_lt16 h16 j)
    · rw [nget_len (by rw [List.length_map]; omega)]; decide) (closed_sol hp hi.1 h16 hh) (padD_ok hp).lt (fun j => by
    rw [padD_get, padD_get]
    by_cases hj : j < vs.length
    · rw [bits_nget vs hj]; exact Sub.bit (hi.2 j (by rw [← hi.1]; exact hj))
    · rw [nget_len (by rw [List.length_map]; omega)]; exact fun i h => by rw [Nat.zero_testBit] at h; cases h) i
  refine this _ ?_
  rw [pad_bits hi.1 hi', bitN_testBit]; simp
/-- The witness. -/
theorem wit_down {r : Dr} {n : Int} (hr : ruleD r n = true) : ∀ (k : Nat) (ds vs : List Nat), vs.length + k = r.vars.length → ds.length = k → (∀ j, nget ds j < 65536) → (∀ v ∈ vs, v < 16) → possD r (vs.map bitN ++ ds) = true →
    ∃ us, witD r k vs.length (vs.map bitN ++ ds) = us.map natI ∧ InD ds us ∧ holdsD r ((vs ++ us).map natI) = true
  | 0, ds, vs, hl, hd, _, hv, h => by
    have : ds = [] := List.length_eq_zero_iff.1 hd
    subst this
    refine ⟨[], rfl, ⟨rfl, fun i hi => by simp at hi⟩, ?_⟩
    rw [List.append_nil] at h ⊢
    rw [← poss_sing hr (by omega) hv]; exact h
  | k + 1, d :: ds, vs, hl, hd, hb, hv, h => by
    have hlen : (vs.map bitN).length = vs.length := List.length_map _
    have hget : nget (vs.map bitN ++ d :: ds) vs.length = d := by simp [nget, List.getElem?_append_right]
    have hb2 : ∀ j, nget (vs.map bitN ++ d :: ds) j < 65536 := fun j => by
      by_cases hj : j < vs.length
      · have e : nget (vs.map bitN ++ d :: ds) j = bitN (nget vs j) := by simp [nget, List.getElem?_append_left, hj]
        rw [e]
        exact bit16 (hv _ (by simp [nget, hj]))
      · have e : nget (vs.map bitN ++ d :: ds) j = nget (d :: ds) (j - vs.length) := by
          unfold nget; rw [List.getElem?_append_right (by omega), hlen]
        rw [e]; exact hb _
    obtain ⟨v0, hve0, hp0⟩ := poss_split hr (l := vs.map bitN ++ d :: ds) (by rw [List.length_append, hlen, hd]; omega) hb2 (i := vs.length) (by rw [List.length_append, hlen, List.length_cons]; omega) h
    have hset : ∀ v, (vs.map bitN ++ d :: ds).set vs.length (bitN v) = (vs ++ [v]).map bitN ++ ds := fun v => by
      rw [List.set_append_right _ _ (by omega), hlen]; simp
    unfold witD
    cases hf : (elems (nget (vs.map bitN ++ d :: ds) vs.length)).find? fun v => possD r ((vs.map bitN ++ d :: ds).set vs.length (bitN v)) with
    | none =>
      have := List.find?_eq_none.1 hf v0 hve0
      exact absurd hp0 this
    | some v =>
      have hp := List.find?_some hf
      have hve := List.mem_of_find?_eq_some hf
      rw [hget] at hve
      have hv16 := elems16 (hb 0) hve
      rw [hset] at hp
      obtain ⟨us, h0, h1, h2⟩ := wit_down hr k ds (vs ++ [v]) (by simp; omega) (by simpa using hd) (fun j => hb (j + 1)) (fun u hu => by
        rcases List.mem_append.1 hu with hu | hu
        · exact hv u hu
        · rw [List.mem_singleton.1 hu]; exact hv16) hp
      refine ⟨v :: us, ?_, ⟨by rw [List.length_cons, List.length_cons, h1.1], fun i hi => ?_⟩, ?_⟩
      · show (v : Int) :: witD r k (vs.length + 1) ((vs.map bitN ++ d :: ds).set vs.length (bitN v)) = _
        rw [hset, show vs.length + 1 = (vs ++ [v]).length by simp, h0]; rfl
      · cases i with
        | zero => exact (mem_elems.1 hve).2
        | succ i => exact h1.2 i (by simpa using hi)
      · rw [List.append_assoc] at h2; exact h2
/-- What is asked of a value that is left, and of its witness. -/
theorem supp_left {p : Dp} (hp : probD p = true) (hv : ¬ Void p (propD p).1) {n : Nat} (hn : n < p.rules.length) {a : Nat} (ha : a < (drget p.rules n).vars.length) (v : Nat) :
    suppD (propD p).1 (drget p.rules n) a v = hasD (nget (propD p).1 (iget (drget p.rules n).vars a).toNat) v := by
  have hc : Closed p.rules (propD p).1 := (run_fix hp (padD_ok hp)).resolve_left hv
  rw [Bool.eq_iff_iff]
  constructor
  · intro h
    unfold suppD at h
    rw [Bool.and_eq_true, ofD_all, if_pos ha] at h
    exact h.1
  · intro h
    refine hc _ (drget_mem hn) a ha v ?_
    unfold hasD at h
    rw [Bool.and_eq_true, Int.toNat_natCast] at h
    exact h.2
/-- The problem that is left. -/
def leftP (p : Dp) : Dp := ⟨(propD p).1.take p.doms.length, p.rules⟩
theorem left_ok {p : Dp} (hp : probD p = true) : probD (leftP p) = true ∧ padD (leftP p).doms = (propD p).1 := by
  have hg : Good (propD p) := run_good hp (padD_ok hp)
  have ht := prop_take hp
  exact ⟨probD_doms hp ht.1 fun i => by rw [← padD_get, ht.2]; exact hg.f.lt i, ht.2⟩
theorem left_err {p : Dp} (hp : probD p = true) (hv : ¬ Void p (propD p).1) {n : Nat} (hn : n < p.rules.length) {a : Nat} (ha : a < (drget p.rules n).vars.length) (v : Nat) :
    supE (leftP p) n a v = if hasD (nget (propD p).1 (iget (drget p.rules n).vars a).toNat) v then 0 else 5 := by
  obtain ⟨h1, h2⟩ := left_ok hp
  unfold supE
  rw [h1, if_pos (by
    rw [Int.toNat_natCast]
    show (true && inB _ 0 ((p.rules.length : Int) - 1) && inB _ 0 (((drget p.rules n).vars.length : Int) - 1)) = true
    unfold inB; simp; omega), h2, Int.toNat_natCast, Int.toNat_natCast]
  show (if suppD (propD p).1 (drget p.rules n) a v = true then (0 : Int) else 5) = _
  rw [supp_left hp hv hn ha v]
/-- What is known of the witness. -/
structure Wit (p : Dp) (n a v : Nat) (us : List Nat) : Prop where
  list : supL (leftP p) n a v = us.map natI
  len : us.length = (drget p.rules n).vars.length
  at_ : nget us a = v
  low : ∀ u ∈ us, u < 16
  holds : holdsD (drget p.rules n) (us.map natI) = true
  left : ∀ k, k < (drget p.rules n).vars.length → hasD (nget (propD p).1 (iget (drget p.rules n).vars k).toNat) (nget us k) = true
theorem left_wit {p : Dp} (hp : probD p = true) (hv : ¬ Void p (propD p).1) {n : Nat} (hn : n < p.rules.length) {a : Nat} (ha : a < (drget p.rules n).vars.length) {v : Nat}
    (hh : hasD (nget (propD p).1 (iget (drget p.rules n).vars a).toNat) v = true) : ∃ us, Wit p n a v us := by
  obtain ⟨h1, h2⟩ := left_ok hp
  have hg : Good (propD p) := run_good hp (padD_ok hp)
  have hrd := (probD_parts hp).2.2.2.2 n hn
  have he := left_err hp hv hn ha v
  rw [if_pos hh] at he
  have hs : suppD (propD p).1 (drget p.rules n) a v = true := by rw [supp_left hp hv hn ha v]; exact hh
  have hv16 : v < 16 := by unfold hasD inB at hh; simp at hh; omega
  have hposs : possD (drget p.rules n) ((ofD (propD p).1 (drget p.rules n).vars).set a (bitN v)) = true := by
    unfold suppD at hs; rw [Bool.and_eq_true, Int.toNat_natCast] at hs; exact hs.2
  have hb : ∀ j, nget ((ofD (propD p).1 (drget p.rules n).vars).set a (bitN v)) j < 65536 := set_lt (fun j => ofD_lt2 hg.f.lt _ j) (bit16 hv16)
  obtain ⟨us, w1, w2, w3⟩ := wit_down hrd (drget p.rules n).vars.length ((ofD (propD p).1 (drget p.rules n).vars).set a (bitN v)) [] (by simp) (by rw [List.length_set, ofD_length]) hb (fun u hu => by cases hu) hposs
  have hul : us.length = (drget p.rules n).vars.length := by rw [w2.1, List.length_set, ofD_length]
  have hget : ∀ k, k < (drget p.rules n).vars.length → (if a = k then bitN v else nget (propD p).1 (iget (drget p.rules n).vars k).toNat).testBit (nget us k) = true := fun k hk => by
    have := w2.2 k (by rw [List.length_set, ofD_length]; exact hk)
    rw [nget_set, ofD_length, ofD_get _ _ hk] at this
    by_cases hak : a = k
    · rw [if_pos ⟨hak, ha⟩] at this; rw [if_pos hak]; exact this
    · rw [if_neg fun h => hak h.1] at this; rw [if_neg hak]; exact this
  have hat : nget us a = v := by
    have := hget a ha
    rw [if_pos rfl, bitN_testBit] at this
    have : v = nget us a := by simpa using this
    exact this.symm
  refine ⟨us, ?_, hul, hat, inD_lt w2 hb, by simpa using w3, fun k hk => ?_⟩
  · unfold supL
    rw [if_pos he, h2, Int.toNat_natCast, Int.toNat_natCast]
    show witD (drget p.rules n) (drget p.rules n).vars.length 0 (ofAt (propD p).1 (drget p.rules n) a v) = _
    unfold ofAt
    rw [ofD_get _ _ ha, if_pos hh, Int.toNat_natCast]
    exact w1
  · by_cases hak : a = k
    · subst hak; rw [hat]; exact hh
    · have := hget k hk
      rw [if_neg hak] at this
      unfold hasD inB
      have := bit_lt16 (hg.f.lt _) this
      rw [Int.toNat_natCast, Bool.and_eq_true]
      refine ⟨by simp; omega, by assumption⟩
end Go.Proofs.YtdmmegmkdhinjaaGreatDoor
