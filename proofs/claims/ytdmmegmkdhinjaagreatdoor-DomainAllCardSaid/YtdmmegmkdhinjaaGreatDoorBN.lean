/- The reference of Domain: Supported, Witness. · The reference's witness is that of package domain. No program in sight. -/
import Derived.Test.YtdmmegmkdhinjaaGreatDoorBM
namespace Go.Proofs.YtdmmegmkdhinjaaGreatDoor
open Go Go.RowKit
attribute [local go_sem] cell_grow u64_sAnd u64_sOr u64_sDiff sDiff_all zeqI zneI sAnd_bit_zero sAnd_bit_zeroN sAnd_bit_nonzero

theorem ofD_lt2 {f : List Nat} (hf : ∀ i, nget f i < 65536) (vars : List Int) (i : Nat) : nget (ofD f vars) i < 65536 := by
  by_cases h : i < vars.length
  · rw [ofD_get f _ h]; exact hf _
  · unfold nget; rw [List.getElem?_eq_none (by rw [ofD_length]; omega)]; decide
theorem set_lt {l : List Nat} {i x : Nat} (hl : ∀ j, nget l j < 65536) (hx : x < 65536) (j : Nat) : nget (l.set i x) j < 65536 := by
  rw [nget_set]; split; exact hx; exact hl j
theorem own_put {w : World} {base g n cap i x : Nat} {l : List Nat} (h : w.ownsRow base 56 1 (.slice (some ⟨g, 0, none⟩) n cap) n (natsV l)) : (w.setCell ⟨g, i, none⟩ (.int .u64 (x : Nat))).ownsRow base 56 1 (.slice (some ⟨g, 0, none⟩) n cap) n (natsV (l.set i x)) := by
  have := (h.stored i (.int .u64 (x : Nat))).1
  rwa [show (natsV l).set i (.int .u64 (x : Nat)) = natsV (l.set i x) by unfold natsV; rw [List.map_set]; rfl] at this
set_option maxRecDepth 100000 in
set_option maxHeartbeats 2000000 in
theorem refSupp_any (r : Dr) {n : Int} (hr0 : ruleD r n = true) (f : List Nat) (hn : n = f.length) (_ : f.length ≤ 1000) (hf : ∀ i, nget f i < 65536) (at_ : Nat) (hat : at_ < r.vars.length) (v : Int) (vv nv fv : Value) (w : World) {B : Nat} (hr : RuleAt w B r vv nv) (hfu : Us w B fv f) (hB : B ≤ w.heap.size) :
    Gives Tryz.prog 77 #[ruleV r vv nv, fv, .int .i64 (at_ : Nat), .int .i64 v] w (.bool (suppD f r at_ v)) := by
  unfold Gives
  have hp := ruleD_parts hr0
  have h4 := hp.2.1
  have HOF := Lib.hid (fun (Y : World) (hY : Below w.heap.size w Y) => refOf_any r f (fun i hi => by have := hp.2.2.1 i hi; omega) (by omega) vv nv fv Y (hr.below hY hB) (hfu.below hY hB) (Nat.le_trans hB hY.size))
  have HR := Lib.hid hr; have HR0 := Lib.hid hr0; have HFB := Lib.hid hf
  obtain ⟨va, vc, rfl⟩ := hr.vars.slice
  obtain ⟨na, nc, rfl⟩ := hr.nums.slice
  obtain ⟨fa, fc, rfl⟩ := hfu.slice
  unfold ruleV at HOF ⊢
  clear hr hfu hp hr0 hf hn
  go_enter Tryz.func77, Tryz.ntmps77
  go_upto_region 1 with fail
  refine abs_wp (fun W => W.heap[w.heap.size]? = some (.cells #[.int .i64 r.kind, .slice va r.vars.length vc, .slice na r.nums.length nc, .int .i64 r.n] 69 (0, 0)) ∧ Below w.heap.size w W) ⟨heap_new0 _ _, Below.new1 _ _⟩ ?_
  rintro W ⟨k0, hb⟩
  have zW : w.heap.size < W.heap.size := (Array.getElem?_eq_some_iff.1 k0).1
  have c0 : W.cell? ⟨w.heap.size, 0, none⟩ = some (.int .i64 r.kind) := by rw [cell_of_row _ _ _ _ _ _ k0]; rfl
  have c1 : W.cell? ⟨w.heap.size, 1, none⟩ = some (.slice va r.vars.length vc) := by rw [cell_of_row _ _ _ _ _ _ k0]; rfl
  have c2 : W.cell? ⟨w.heap.size, 2, none⟩ = some (.slice na r.nums.length nc) := by rw [cell_of_row _ _ _ _ _ _ k0]; rfl
  have c3 : W.cell? ⟨w.heap.size, 3, none⟩ = some (.int .i64 r.n) := by rw [cell_of_row _ _ _ _ _ _ k0]; rfl
  have HO := Lib.hid (HOF.out W hb)
  have K0 := Lib.hid k0; have HB := Lib.hid hb
  clear k0 hb HOF
  go_wp2_with fail
  refine HO.out.mono ?_
  rintro e W1 ⟨lv, rfl, hown, hb1⟩
  obtain ⟨g, cap, cur, rfl, hgb, hg, hg3, hg4, hg5⟩ := own_some hown (by omega)
  have hol : (ofD f r.vars).length = r.vars.length := ofD_length f r.vars
  have ea : W1.cell? ⟨g, at_, none⟩ = some (.int .u64 (nget (ofD f r.vars) at_ : Nat)) := by
    rw [hown.cellAt at_ (by omega), natsV_get _ _ (by omega)]
  have fa2 : W1.frozen? ⟨g, at_, none⟩ = false := hown.frozenAt at_
  have hu : U64 (nget (ofD f r.vars) at_) := Nat.lt_trans (ofD_lt2 HFB.out _ _) (by decide)
  have hatI : (at_ : Int) < ((r.vars.length : Nat) : Int) := by omega
  have k1 := heap_later K0.out hb1 zW
  have HOW := Lib.hid hown; have K1 := Lib.hid k1; have HB1 := Lib.hid (HB.out.trans (hb1.mono HB.out.size)); have HU := Lib.hid hu
  have hgw : W.heap.size ≤ g := hgb
  have zg : g < W1.heap.size := (hown.lt g rfl).2
  clear hown k1 hb1 hg hg5 hgb hu c0 c1 c2 c3 HO
  have HH := Lib.hid (fun W' => refHas_any (nget (ofD f r.vars) at_) v W' HU.out)
  cases hh : hasD (nget (ofD f r.vars) at_) v <;> rw [hh] at HH
  case false =>
    have HS : Hid (suppD f r at_ v = false) := Lib.hid (by unfold suppD; rw [hh]; rfl)
    clear hh
    go_wp2_with (go_at_call 61; (with_reducible refine (HH.out _).mono ?_); rintro ee w' ⟨rfl, hww⟩; rw [hww]; clear hww w')
    go_ret
    exact ⟨by rw [HS.out]; rfl, HB1.out⟩
  case true =>
    obtain ⟨m, rfl, hm16⟩ := hasD_nat hh
    have HS : Hid (suppD f r at_ (m : Int) = possD r ((ofD f r.vars).set at_ (bitN m))) := Lib.hid (by unfold suppD; rw [hh, Int.toNat_natCast]; rfl)
    have hm64 : m < 64 := by omega
    have HONE := Lib.hid (fun W' => refOne_any m W' hm64)
    have ho2 := own_put (i := at_) (x := bitN m) HOW.out
    have hb2 := HB1.out.setCell (p := ⟨g, at_, none⟩) (show w.heap.size ≤ g by omega) (.int .u64 (bitN m : Nat))
    have hk2 := (Below.heap_setCell W1 ⟨g, at_, none⟩ (.int .u64 (bitN m : Nat)) w.heap.size (by show w.heap.size ≠ g; omega)).trans K1.out
    clear hh
    go_upto_region 5 with (first | (go_at_call 61; (with_reducible refine (HH.out _).mono ?_); rintro ee w' ⟨rfl, hww⟩; rw [hww]; clear hww w') | (go_at_call 92; (with_reducible refine (HONE.out _).mono ?_); rintro ee w' ⟨rfl, hww⟩; rw [hww]; clear hww w'))
    refine abs_wp (fun W2 => W2.heap[w.heap.size]? = some (.cells #[.int .i64 r.kind, .slice va r.vars.length vc, .slice na r.nums.length nc, .int .i64 r.n] 69 (0, 0)) ∧ W2.ownsRow W.heap.size 56 1 (.slice (some ⟨g, 0, none⟩) r.vars.length cap) r.vars.length (natsV ((ofD f r.vars).set at_ (bitN m))) ∧ Below w.heap.size w W2) ⟨hk2, ho2, hb2⟩ ?_
    clear ho2 hb2 hk2 ea fa2 HOW K1 HB1 zg
    rintro W2 ⟨k0, ho, hb⟩
    have c0 : W2.cell? ⟨w.heap.size, 0, none⟩ = some (.int .i64 r.kind) := by rw [cell_of_row _ _ _ _ _ _ k0]; rfl
    have c1 : W2.cell? ⟨w.heap.size, 1, none⟩ = some (.slice va r.vars.length vc) := by rw [cell_of_row _ _ _ _ _ _ k0]; rfl
    have c2 : W2.cell? ⟨w.heap.size, 2, none⟩ = some (.slice na r.nums.length nc) := by rw [cell_of_row _ _ _ _ _ _ k0]; rfl
    have c3 : W2.cell? ⟨w.heap.size, 3, none⟩ = some (.int .i64 r.n) := by rw [cell_of_row _ _ _ _ _ _ k0]; rfl
    have hls : ((ofD f r.vars).set at_ (bitN m)).length = r.vars.length := by rw [List.length_set]; exact hol
    have hus := owns_us ho (by omega) hls
    have hbs := hb.size
    have HC := Lib.hid (refCan_any r HR0.out _ hls (fun i _ => set_lt (ofD_lt2 HFB.out _) (bit16 hm16) i) _ _ _ W2 ((HR.out.below hb hB).mono (show B ≤ W2.heap.size by omega)) hus (Nat.le_refl _))
    unfold ruleV at HC
    have HBF := Lib.hid hb
    clear k0 ho hus hls hb
    go_wp2_with fail
    refine HC.out.mono ?_
    rintro e W3 ⟨rfl, hb3⟩
    have HB3 := Lib.hid (HBF.out.trans (hb3.mono hbs))
    clear hb3 c0 c1 c2 c3
    go_wp2
    go_ret
    exact ⟨by rw [HS.out]; rfl, HB3.out⟩
/-- The reference's witness, from one place on. -/
def refW (r : Dr) : Nat → Nat → List Nat → List Int
  | 0, _, _ => []
  | k + 1, i, l =>
    match (List.range 16).find? fun v => possD r (l.set i (sAnd (nget l i) (bitN v))) with
    | some v => (v : Int) :: refW r k (i + 1) (l.set i (sAnd (nget l i) (bitN v)))
    | none => 16 :: refW r k (i + 1) (l.set i (sAnd (nget l i) (bitN 15)))
theorem find_range {q : Nat → Bool} {k : Nat} (hk : k < 16) (h : q k = true) (hlt : ∀ j, j < k → q j = false) : (List.range 16).find? q = some k := by
  rw [List.find?_range_eq_some]
  exact ⟨h, List.mem_range.2 hk, fun j hj => by rw [hlt j hj]; rfl⟩
theorem find_no {q : Nat → Bool} (h : ∀ j, j < 16 → q j = false) : (List.range 16).find? q = none := List.find?_eq_none.2 fun j hj => by rw [h j (List.mem_range.1 hj)]; decide
end Go.Proofs.YtdmmegmkdhinjaaGreatDoor

namespace Go.Proofs.YtdmmegmkdhinjaaGreatDoor
open Go Go.RowKit

theorem bitN_ne (v : Nat) : bitN v ≠ 0 := fun h => by have := bitN_testBit v v; rw [h, Nat.zero_testBit] at this; simp at this
theorem and_bit (d v : Nat) : sAnd d (bitN v) = if d.testBit v then bitN v else 0 := by
  apply Nat.eq_of_testBit_eq
  intro i
  have h1 : (sAnd d (bitN v)).testBit i = (d.testBit i && (bitN v).testBit i) := Nat.testBit_and d (bitN v) i
  rw [h1, bitN_testBit]
  by_cases hv : v = i
  · subst hv
    cases d.testBit v <;> simp [bitN_testBit]
  · cases d.testBit v <;> simp [bitN_testBit, hv]
theorem least_bit {v : Nat} (hv : v < 16) (num : Int) : leastN (bitN v) num = num * v := by
  have hb := bit16 hv
  have h1 := (hi_spec hb (bitN_ne v)).1
  have h2 := (lo_spec hb (bitN_ne v)).1
  rw [bitN_testBit] at h1 h2
  have e1 : v = hiD (bitN v) := by simpa using h1
  have e2 : v = ctzN (bitN v) := by simpa using h2
  unfold leastN
  rw [← e1, ← e2]
  split <;> rfl
theorem sumD_congr : ∀ (ns : List Int) (ds ds' : List Nat), ds.length = ds'.length → (∀ k, k < ds.length → leastN (nget ds k) (iget ns k) = leastN (nget ds' k) (iget ns k)) → sumD ns ds = sumD ns ds'
  | [], ds, ds', _, _ => by cases ds <;> cases ds' <;> rfl
  | n :: ns, [], [], _, _ => rfl
  | n :: ns, [], d' :: ds', h, _ => by simp at h
  | n :: ns, d :: ds, [], h, _ => by simp at h
  | n :: ns, d :: ds, d' :: ds', h, hk => by
    have h0 : leastN d n = leastN d' n := hk 0 (by simp)
    have ih := sumD_congr ns ds ds' (by simpa using h) (fun k hk' => hk (k + 1) (by simpa using hk'))
    show leastN d n + sumD ns ds = leastN d' n + sumD ns ds'
    rw [h0, ih]
theorem diff_split : ∀ (ds : List Nat) (t i : Nat), i < ds.length → diffD ds t = true → ∃ v ∈ elems (nget ds i), diffD (ds.set i (bitN v)) t = true
  | [], _, _, h, _ => by simp at h
  | d :: ds, t, 0, _, h => by
    unfold diffD at h
    obtain ⟨v, hv, hd⟩ := List.any_eq_true.1 h
    obtain ⟨h64, hb⟩ := mem_elems.1 hv
    have hb2 := sDiff_testBit d t v
    rw [hb] at hb2
    have hb3 : d.testBit v = true ∧ t.testBit v = false := by revert hb2; cases d.testBit v <;> cases t.testBit v <;> simp
    refine ⟨v, mem_elems.2 ⟨h64, hb3.1⟩, ?_⟩
    show diffD (bitN v :: ds) t = true
    unfold diffD
    refine List.any_eq_true.2 ⟨v, mem_elems.2 ⟨h64, ?_⟩, hd⟩
    rw [sDiff_testBit, bitN_testBit, hb3.2]; simp
  | d :: ds, t, i + 1, hi, h => by
    unfold diffD at h
    obtain ⟨v0, hv0, hd⟩ := List.any_eq_true.1 h
    obtain ⟨v, hv, hd2⟩ := diff_split ds (sOr t (bitN v0)) i (by simpa using hi) hd
    refine ⟨v, hv, ?_⟩
    show diffD (d :: ds.set i (bitN v)) t = true
    unfold diffD
    exact List.any_eq_true.2 ⟨v0, hv0, hd2⟩
theorem poss_true {r : Dr} {ds : List Nat} (h : possD r ds = true) : (∀ k, k < ds.length → nget ds k ≠ 0) ∧ canD r ds = true := by
  unfold possD at h
  rw [Bool.and_eq_true] at h
  refine ⟨fun k hk he => ?_, h.2⟩
  have h1 := h.1
  have : ds.contains 0 = true := by
    rw [List.contains_iff_mem, ← he]
    unfold nget; rw [List.getElem?_eq_getElem hk]; exact List.getElem_mem hk
  rw [this] at h1; cases h1
/-- A rule that can hold can hold for one of the values of each domain. -/
theorem poss_split {r : Dr} {n : Int} (hr : ruleD r n = true) {l : List Nat} (hl : l.length = r.vars.length) (hb : ∀ j, nget l j < 65536) {i : Nat} (hi : i < l.length) (h : possD r l = true) : ∃ v ∈ elems (nget l i), possD r (l.set i (bitN v)) = true := by
  obtain ⟨hz, hc⟩ := poss_true h
  have hfull : ∀ v, possD r (l.set i (bitN v)) = canD r (l.set i (bitN v)) := fun v => poss_full fun k hk => by
    rw [List.length_set] at hk
    rw [nget_set]
    split
    · exact bitN_ne v
    · exact hz k hk
  have hdi := hb i
  have hzi := hz i hi
  by_cases k1 : r.kind = 1
  · obtain ⟨v, hv⟩ : ∃ v : Nat, v = if iget r.nums i < 0 then hiD (nget l i) else ctzN (nget l i) := ⟨_, rfl⟩
    have hv16 : v < 16 := by rw [hv]; split; exact (hi_spec hdi hzi).2.1; exact (lo_spec hdi hzi).2.1
    have hvb : (nget l i).testBit v = true := by rw [hv]; split; exact (hi_spec hdi hzi).1; exact (lo_spec hdi hzi).1
    refine ⟨v, mem_elems.2 ⟨by omega, hvb⟩, ?_⟩
    rw [hfull]
    unfold canD at hc ⊢
    rw [if_pos k1] at hc ⊢
    rw [← sumD_congr r.nums l (l.set i (bitN v)) (by rw [List.length_set]) (fun k hk => ?_)]
    · exact hc
    · rw [nget_set]
      split
      · rename_i he
        rw [← he.1, least_bit hv16]
        unfold leastN
        rw [hv]
        split <;> rfl
      · rfl
  by_cases k2 : r.kind = 2
  · unfold canD at hc
    rw [if_neg k1, if_pos k2] at hc
    obtain ⟨v, hv, hd⟩ := diff_split l 0 i hi hc
    refine ⟨v, hv, ?_⟩
    rw [hfull]
    unfold canD
    rw [if_neg k1, if_pos k2]; exact hd
  have hf := (ruleD_parts hr).2.2.2.2.2
  have h2 : l.length = 2 := by
    unfold formD at hf
    rw [if_neg k1, if_neg k2] at hf
    split at hf
    · simp only [Bool.and_eq_true, beq_iff_eq] at hf; omega
    · split at hf
      · simp only [Bool.and_eq_true, beq_iff_eq] at hf; omega
      · cases hf
  obtain ⟨a, b, ha, hbb, hta, htb, hh⟩ := (can_pair hr k1 k2 (hb 0) (hb 1) rfl rfl).1 hc
  have hi2 : i = 0 ∨ i = 1 := by omega
  rcases hi2 with rfl | rfl
  · refine ⟨a, mem_elems.2 ⟨by omega, hta⟩, ?_⟩
    rw [hfull]
    refine (can_pair hr k1 k2 (d0 := bitN a) (d1 := nget l 1) (bit16 ha) (hb 1) (by rw [nget_set, if_pos ⟨rfl, hi⟩]) (by rw [nget_set, if_neg (by omega)])).2 ⟨a, b, ha, hbb, by rw [bitN_testBit]; simp, htb, hh⟩
  · refine ⟨b, mem_elems.2 ⟨by omega, htb⟩, ?_⟩
    rw [hfull]
    refine (can_pair hr k1 k2 (d0 := nget l 0) (d1 := bitN b) (hb 0) (bit16 hbb) (by rw [nget_set, if_neg (by omega)]) (by rw [nget_set, if_pos ⟨rfl, hi⟩])).2 ⟨a, b, ha, hbb, hta, by rw [bitN_testBit]; simp, hh⟩
theorem refW_eq {r : Dr} {n : Int} (hr : ruleD r n = true) : ∀ (k i : Nat) (l : List Nat), i + k = l.length → l.length = r.vars.length → (∀ j, nget l j < 65536) → possD r l = true → refW r k i l = witD r k i l
  | 0, _, _, _, _, _, _ => rfl
  | k + 1, i, l, hik, hl, hb, h => by
    have hi : i < l.length := by omega
    obtain ⟨v, hv, hpv⟩ := poss_split hr hl hb hi h
    have hq : ∀ j, possD r (l.set i (sAnd (nget l i) (bitN j))) = ((nget l i).testBit j && possD r (l.set i (bitN j))) := fun j => by
      rw [and_bit]
      cases hj : (nget l i).testBit j
      · rw [if_neg (by decide), poss_zero (k := i) (by rw [List.length_set]; exact hi) (by rw [nget_set, if_pos ⟨rfl, hi⟩])]; rfl
      · rw [if_pos rfl, Bool.true_and]
    have hfe : (elems (nget l i)).find? (fun v => possD r (l.set i (bitN v))) = (List.range 64).find? (fun v => (nget l i).testBit v && possD r (l.set i (bitN v))) := by
      unfold elems
      rw [List.find?_filter]
      congr 1
      funext a
      rw [Bool.eq_iff_iff]
      simp
    obtain ⟨h64, hvb⟩ := mem_elems.1 hv
    obtain ⟨v0, hv0⟩ : ∃ v0, (List.range 64).find? (fun v => (nget l i).testBit v && possD r (l.set i (bitN v))) = some v0 := by
      cases hf : (List.range 64).find? (fun v => (nget l i).testBit v && possD r (l.set i (bitN v))) with
      | some v0 => exact ⟨v0, rfl⟩
      | none =>
        have := List.find?_eq_none.1 hf v (List.mem_range.2 h64)
        rw [hvb, hpv] at this
        exact absurd rfl this
    obtain ⟨g1, g2, g3⟩ := List.find?_range_eq_some.1 hv0
    rw [Bool.and_eq_true] at g1
    have hv16 : v0 < 16 := bit_lt16 (hb i) g1.1
    have hfr : (List.range 16).find? (fun v => possD r (l.set i (sAnd (nget l i) (bitN v)))) = some v0 := find_range hv16 (by rw [hq, g1.1, g1.2]; rfl) (fun j hj => by
      rw [hq]
      have := g3 j hj
      cases h1 : (nget l i).testBit j <;> cases h2 : possD r (l.set i (bitN j)) <;> rw [h1, h2] at this <;> first | rfl | cases this)
    have he : sAnd (nget l i) (bitN v0) = bitN v0 := by rw [and_bit, if_pos g1.1]
    show (match (List.range 16).find? (fun v => possD r (l.set i (sAnd (nget l i) (bitN v)))) with | some v => _ | none => _) = (match (elems (nget l i)).find? (fun v => possD r (l.set i (bitN v))) with | some v => _ | none => _)
    rw [hfe, hv0, hfr]
    dsimp only
    rw [he, refW_eq hr k (i + 1) (l.set i (bitN v0)) (by rw [List.length_set]; omega) (by rw [List.length_set]; exact hl) (set_lt hb (bit16 hv16)) g1.2]
theorem ofD_pad (l : List Nat) (vars : List Int) : ofD (padD l) vars = ofD l vars := by
  unfold ofD
  exact List.map_congr_left fun x _ => padD_get l x.toNat
theorem suppD_pad (l : List Nat) (r : Dr) (i : Nat) (v : Int) : suppD (padD l) r i v = suppD l r i v := by unfold suppD; rw [ofD_pad]
end Go.Proofs.YtdmmegmkdhinjaaGreatDoor
