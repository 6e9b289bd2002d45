/- The reference of Domain: Supported, Witness. · The reference's witness is that of package domain. No program in sight. -/
import Derived.Test.YtdmmegmkdhinjaaDoorBM
namespace Go.Proofs.YtdmmegmkdhinjaaDoor
open Go Go.RowKit
attribute [local go_sem] cell_grow u64_sAnd u64_sOr u64_sDiff sDiff_all zeqI zneI sAnd_bit_zero sAnd_bit_zeroN sAnd_bit_nonzero

theorem ofD_lt2 {f : List Nat} (hf : ∀ i, nget f i < 65536) (vars : List Int) (i : Nat) : nget (ofD f vars) i < 65536 := by
  by_cases h : i < vars.length
  · rw [ofD_get f _ h]; exact hf _
  · unfold nget; rw [List.getElem?_eq_none (by rw [ofD_length]; omega)]; decide
theorem set_lt {l : List Nat} {i x : Nat} (hl : ∀ j, nget l j < 65536) (hx : x < 65536) (j : Nat) : nget (l.set i x) j < 65536 := by
  rw [nget_set]; split; exact hx; exact hl j
theorem own_put {w : World} {base g n cap i x : Nat} {l : List Nat} (h : w.ownsRow base 53 1 (.slice (some ⟨g, 0, none⟩) n cap) n (natsV l)) : (w.setCell ⟨g, i, none⟩ (.int .u64 (x : Nat))).ownsRow base 53 1 (.slice (some ⟨g, 0, none⟩) n cap) n (natsV (l.set i x)) := by
  have := (h.stored i (.int .u64 (x : Nat))).1
  rwa [show (natsV l).set i (.int .u64 (x : Nat)) = natsV (l.set i x) by unfold natsV; rw [List.map_set]; rfl] at this
set_option maxRecDepth 100000 in
set_option maxHeartbeats 2000000 in
theorem refSupp_any (r : Dr) {n : Int} (hr0 : ruleD r n = true) (f : List Nat) (hn : n = f.length) (_ : f.length ≤ 1000) (hf : ∀ i, nget f i < 65536) (at_ : Nat) (hat : at_ < r.vars.length) (v : Int) (vv nv fv : Value) (w : World) {B : Nat} (hr : RuleAt w B r vv nv) (hfu : Us w B fv f) (hB : B ≤ w.heap.size) :
    Gives Tryd.prog 14 #[ruleV r vv nv, fv, .int .i64 (at_ : Nat), .int .i64 v] w (.bool (suppD f r at_ v)) := by
  unfold Gives
  have hp := ruleD_parts hr0
  have h4 := hp.2.1
  have HOF := Lib.hid (fun (Y : World) (hY : Below w.heap.size w Y) => refOf_any r f (fun i hi => by have := hp.2.2.1 i hi; omega) (by omega) vv nv fv Y (hr.below hY hB) (hfu.below hY hB) (Nat.le_trans hB hY.size))
  have HR := Lib.hid hr; have HR0 := Lib.hid hr0; have HFB := Lib.hid hf
  obtain ⟨va, vc, rfl⟩ := hr.vars.slice
  obtain ⟨na, nc, rfl⟩ := hr.nums.slice
  obtain ⟨fa, fc, rfl⟩ := hfu.slice
  unfold ruleV at HOF ⊢
  clear hr hfu hp hr0 hf hn
  go_enter Tryd.func14, Tryd.ntmps14
  go_upto_region 1 with fail
  refine abs_wp (fun W => W.heap[w.heap.size]? = some (.cells #[.int .i64 r.kind, .slice va r.vars.length vc, .slice na r.nums.length nc, .int .i64 r.n] 35 (0, 0)) ∧ Below w.heap.size w W) ⟨heap_new0 _ _, Below.new1 _ _⟩ ?_
  rintro W ⟨k0, hb⟩
  have zW : w.heap.size < W.heap.size := (Array.getElem?_eq_some_iff.1 k0).1
  have c0 : W.cell? ⟨w.heap.size, 0, none⟩ = some (.int .i64 r.kind) := by rw [cell_of_row _ _ _ _ _ _ k0]; rfl
  have c1 : W.cell? ⟨w.heap.size, 1, none⟩ = some (.slice va r.vars.length vc) := by rw [cell_of_row _ _ _ _ _ _ k0]; rfl
  have c2 : W.cell? ⟨w.heap.size, 2, none⟩ = some (.slice na r.nums.length nc) := by rw [cell_of_row _ _ _ _ _ _ k0]; rfl
  have c3 : W.cell? ⟨w.heap.size, 3, none⟩ = some (.int .i64 r.n) := by rw [cell_of_row _ _ _ _ _ _ k0]; rfl
  have HO := Lib.hid (HOF.out W hb)
  have K0 := Lib.hid k0; have HB := Lib.hid hb
  clear k0 hb HOF
  go_wp2_with fail
  refine HO.out.mono ?_
  rintro e W1 ⟨lv, rfl, hown, hb1⟩
  obtain ⟨g, cap, cur, rfl, hgb, hg, hg3, hg4, hg5⟩ := own_some hown (by omega)
  have hol : (ofD f r.vars).length = r.vars.length := ofD_length f r.vars
  have ea : W1.cell? ⟨g, at_, none⟩ = some (.int .u64 (nget (ofD f r.vars) at_ : Nat)) := by
    rw [hown.cellAt at_ (by omega), natsV_get _ _ (by omega)]
  have fa2 : W1.frozen? ⟨g, at_, none⟩ = false := hown.frozenAt at_
  have hu : U64 (nget (ofD f r.vars) at_) := Nat.lt_trans (ofD_lt2 HFB.out _ _) (by decide)
  have hatI : (at_ : Int) < ((r.vars.length : Nat) : Int) := by omega
  have k1 := heap_later K0.out hb1 zW
  have HOW := Lib.hid hown; have K1 := Lib.hid k1; have HB1 := Lib.hid (HB.out.trans (hb1.mono HB.out.size)); have HU := Lib.hid hu
  have hgw : W.heap.size ≤ g := hgb
  have zg : g < W1.heap.size := (hown.lt g rfl).2
  clear hown k1 hb1 hg hg5 hgb hu c0 c1 c2 c3 HO
  have HH := Lib.hid (fun W' => refHas_any (nget (ofD f r.vars) at_) v W' HU.out)
  cases hh : hasD (nget (ofD f r.vars) at_) v <;> rw [hh] at HH
  case false =>
    have HS : Hid (suppD f r at_ v = false) := Lib.hid (by unfold suppD; rw [hh]; rfl)
    clear hh
    go_wp2_with (go_at_call 27; (with_reducible refine (HH.out _).mono ?_); rintro ee w' ⟨rfl, hww⟩; rw [hww]; clear hww w')
    go_ret
    exact ⟨by rw [HS.out]; rfl, HB1.out⟩
  case true =>
    obtain ⟨m, rfl, hm16⟩ := hasD_nat hh
    have HS : Hid (suppD f r at_ (m : Int) = possD r ((ofD f r.vars).set at_ (bitN m))) := Lib.hid (by unfold suppD; rw [hh, Int.toNat_natCast]; rfl)
    have hm64 : m < 64 := by omega
    have HONE := Lib.hid (fun W' => refOne_any m W' hm64)
    have ho2 := own_put (i := at_) (x := bitN m) HOW.out
    have hb2 := HB1.out.setCell (p := ⟨g, at_, none⟩) (show w.heap.size ≤ g by omega) (.int .u64 (bitN m : Nat))
    have hk2 := (Below.heap_setCell W1 ⟨g, at_, none⟩ (.int .u64 (bitN m : Nat)) w.heap.size (by show w.heap.size ≠ g; omega)).trans K1.out
    clear hh
    go_upto_region 5 with (first | (go_at_call 27; (with_reducible refine (HH.out _).mono ?_); rintro ee w' ⟨rfl, hww⟩; rw [hww]; clear hww w') | (go_at_call 54; (with_reducible refine (HONE.out _).mono ?_); rintro ee w' ⟨rfl, hww⟩; rw [hww]; clear hww w'))
    refine abs_wp (fun W2 => W2.heap[w.heap.size]? = some (.cells #[.int .i64 r.kind, .slice va r.vars.length vc, .slice na r.nums.length nc, .int .i64 r.n] 35 (0, 0)) ∧ W2.ownsRow W.heap.size 53 1 (.slice (some ⟨g, 0, none⟩) r.vars.length cap) r.vars.length (natsV ((ofD f r.vars).set at_ (bitN m))) ∧ Below w.heap.size w W2) ⟨hk2, ho2, hb2⟩ ?_
    clear ho2 hb2 hk2 ea fa2 HOW K1 HB1 zg
    rintro W2 ⟨k0, ho, hb⟩
    have c0 : W2.cell? ⟨w.heap.size, 0, none⟩ = some (.int .i64 r.kind) := by rw [cell_of_row _ _ _ _ _ _ k0]; rfl
    have c1 : W2.cell? ⟨w.heap.size, 1, none⟩ = some (.slice va r.vars.length vc) := by rw [cell_of_row _ _ _ _ _ _ k0]; rfl
    have c2 : W2.cell? ⟨w.heap.size, 2, none⟩ = some (.slice na r.nums.length nc) := by rw [cell_of_row _ _ _ _ _ _ k0]; rfl
    have c3 : W2.cell? ⟨w.heap.size, 3, none⟩ = some (.int .i64 r.n) := by rw [cell_of_row _ _ _ _ _ _ k0]; rfl
    have hls : ((ofD f r.vars).set at_ (bitN m)).length = r.vars.length := by rw [List.length_set]; exact hol
    have hus := owns_us ho (by omega) hls
    have hbs := hb.size
    have HC := Lib.hid (refCan_any r HR0.out _ hls (fun i _ => set_lt (ofD_lt2 HFB.out _) (bit16 hm16) i) _ _ _ W2 ((HR.out.below hb hB).mono (show B ≤ W2.heap.size by omega)) hus (Nat.le_refl _))
    unfold ruleV at HC
    have HBF := Lib.hid hb
    clear k0 ho hus hls hb
    go_wp2_with fail
    refine HC.out.mono ?_
    rintro e W3 ⟨rfl, hb3⟩
    have HB3 := Lib.hid (HBF.out.trans (hb3.mono hbs))
    clear hb3 c0 c1 c2 c3
    go_wp2
    go_ret
    exact ⟨by rw [HS.out]; rfl, HB3.out⟩
/-- The reference's witness, from one place on. -/
def refW (r : Dr) : Nat → Nat → List Nat → List Int
  | 0, _, _ => []
  | k + 1, i, l =>
    match (List.range 16).find? fun v => possD r (l.set i (sAnd (nget l i) (bitN v))) with
    | some v => (v : Int) :: refW r k (i + 1) (l.set i (sAnd (nget l i) (bitN v)))
    | none => 16 :: refW r k (i + 1) (l.set i (sAnd (nget l i) (bitN 15)))
theorem find_range {q : Nat → Bool} {k : Nat} (hk : k < 16) (h : q k = true) (hlt : ∀ j, j < k → q j = false) : (List.range 16).find? q = some k := by
  rw [List.find?_range_eq_some]
  exact ⟨h, List.mem_range.2 hk, fun j hj => by rw [hlt j hj]; rfl⟩
theorem find_no {q : Nat → Bool} (h : ∀ j, j < 16 → q j = false) : (List.range 16).find? q = none := List.find?_eq_none.2 fun j hj => by rw [h j (List.mem_range.1 hj)]; decide
set_option maxRecDepth 100000 in
set_option maxHeartbeats 4000000 in
theorem refWit_any (r : Dr) {n : Int} (hr0 : ruleD r n = true) (f : List Nat) (hn : n = f.length) (_ : f.length ≤ 1000) (hf : ∀ i, nget f i < 65536) (at_ : Nat) (hat : at_ < r.vars.length) (m : Nat) (hm16 : m < 16) (vv nv fv : Value) (w : World) {B : Nat} (hr : RuleAt w B r vv nv) (hfu : Us w B fv f) (hB : B ≤ w.heap.size) :
    Calls Tryd.prog 16 #[ruleV r vv nv, fv, .int .i64 (at_ : Nat), .int .i64 (m : Nat)] w fun e w' => ∃ v, e = .returned v ∧ w'.ownsRow w.heap.size 3 1 v (refW r r.vars.length 0 ((ofD f r.vars).set at_ (bitN m))).length (intsV (refW r r.vars.length 0 ((ofD f r.vars).set at_ (bitN m)))) ∧ Below w.heap.size w w' := by
  obtain ⟨l0, hl0⟩ : ∃ l0, l0 = (ofD f r.vars).set at_ (bitN m) := ⟨_, rfl⟩
  rw [← hl0]
  have HLD := Lib.hid hl0
  clear hl0
  have hp := ruleD_parts hr0
  have h4 := hp.2.1
  have HOF := Lib.hid (fun (Y : World) (hY : Below w.heap.size w Y) => refOf_any r f (fun i hi => by have := hp.2.2.1 i hi; omega) (by omega) vv nv fv Y (hr.below hY hB) (hfu.below hY hB) (Nat.le_trans hB hY.size))
  have HR := Lib.hid hr; have HR0 := Lib.hid hr0; have HFB := Lib.hid hf
  obtain ⟨va, vc, rfl⟩ := hr.vars.slice
  obtain ⟨na, nc, rfl⟩ := hr.nums.slice
  obtain ⟨fa, fc, rfl⟩ := hfu.slice
  obtain ⟨i0, hin, hz0, hz1, hz2⟩ := info_parts info3
  unfold ruleV at HOF ⊢
  clear hr hfu hp hr0 hf hn
  go_enter Tryd.func16, Tryd.ntmps16
  go_upto_region 1 with fail
  refine abs_wp (fun W => W.heap[w.heap.size]? = some (.cells #[.int .i64 r.kind, .slice va r.vars.length vc, .slice na r.nums.length nc, .int .i64 r.n] 35 (0, 0)) ∧ Below w.heap.size w W) ⟨heap_new0 _ _, Below.new1 _ _⟩ ?_
  rintro W ⟨k0, hb⟩
  have zW : w.heap.size < W.heap.size := (Array.getElem?_eq_some_iff.1 k0).1
  have c0 : W.cell? ⟨w.heap.size, 0, none⟩ = some (.int .i64 r.kind) := by rw [cell_of_row _ _ _ _ _ _ k0]; rfl
  have c1 : W.cell? ⟨w.heap.size, 1, none⟩ = some (.slice va r.vars.length vc) := by rw [cell_of_row _ _ _ _ _ _ k0]; rfl
  have c2 : W.cell? ⟨w.heap.size, 2, none⟩ = some (.slice na r.nums.length nc) := by rw [cell_of_row _ _ _ _ _ _ k0]; rfl
  have c3 : W.cell? ⟨w.heap.size, 3, none⟩ = some (.int .i64 r.n) := by rw [cell_of_row _ _ _ _ _ _ k0]; rfl
  have HO := Lib.hid (HOF.out W hb)
  have K0 := Lib.hid k0; have HB := Lib.hid hb
  clear k0 hb HOF
  go_wp2_with fail
  refine HO.out.mono ?_
  rintro e W1 ⟨lv, rfl, hown, hb1⟩
  obtain ⟨g, cap, cur, rfl, hgb, hg, hg3, hg4, hg5⟩ := own_some hown (by omega)
  have hol : (ofD f r.vars).length = r.vars.length := ofD_length f r.vars
  have ea : W1.cell? ⟨g, at_, none⟩ = some (.int .u64 (nget (ofD f r.vars) at_ : Nat)) := by
    rw [hown.cellAt at_ (by omega), natsV_get _ _ (by omega)]
  have fa2 : W1.frozen? ⟨g, at_, none⟩ = false := hown.frozenAt at_
  have hatI : (at_ : Int) < ((r.vars.length : Nat) : Int) := by omega
  have k1 := heap_later K0.out hb1 zW
  have HB1 := Lib.hid (HB.out.trans (hb1.mono HB.out.size))
  have hgw : W.heap.size ≤ g := hgb
  have zg : g < W1.heap.size := (hown.lt g rfl).2
  have hm64 : m < 64 := by omega
  have HONE := Lib.hid (fun (q : Nat) (hq : q < 64) W' => refOne_any q W' hq)
  have ho2 := own_put (i := at_) (x := bitN m) hown
  rw [← HLD.out] at ho2
  have hb2 := HB1.out.setCell (p := ⟨g, at_, none⟩) (show w.heap.size ≤ g by omega) (.int .u64 (bitN m : Nat))
  have hk2 := (Below.heap_setCell W1 ⟨g, at_, none⟩ (.int .u64 (bitN m : Nat)) w.heap.size (by show w.heap.size ≠ g; omega)).trans k1
  have HO2 := Lib.hid ho2; have HB2 := Lib.hid hb2; have HK2 := Lib.hid hk2
  have hs2 : W.heap.size ≤ (W1.setCell ⟨g, at_, none⟩ (.int .u64 (bitN m : Nat))).heap.size := by simpa [World.setCell] using hb1.size
  clear hown k1 hb1 hg hg5 hgb c0 c1 c2 c3 HO ho2 hb2 hk2 HB1
  have hl0n : l0.length = r.vars.length := by rw [HLD.out, List.length_set]; exact hol
  have hl0b : ∀ j, nget l0 j < 65536 := by rw [HLD.out]; exact set_lt (ofD_lt2 HFB.out _) (bit16 hm16)
  have HL0N := Lib.hid hl0n; have HL0B := Lib.hid hl0b
  clear hl0n hl0b
  go_upto_region 4 with (go_at_call 54; (with_reducible refine (HONE.out m hm64 _).mono ?_); rintro ee w' ⟨rfl, hww⟩; rw [hww]; clear hww w')
  refine abs_wp (fun W2 => W2.heap[w.heap.size]? = some (.cells #[.int .i64 r.kind, .slice va r.vars.length vc, .slice na r.nums.length nc, .int .i64 r.n] 35 (0, 0)) ∧ W2.ownsRow W.heap.size 53 1 (.slice (some ⟨g, 0, none⟩) r.vars.length cap) r.vars.length (natsV l0) ∧ Below w.heap.size w W2 ∧ W.heap.size ≤ W2.heap.size) ⟨HK2.out, HO2.out, HB2.out, hs2⟩ ?_
  clear HO2 HB2 HK2 ea fa2 zg hs2
  rintro W2 ⟨k2, ho2, hb2, hs2⟩
  have HK2 := Lib.hid k2; have HO2 := Lib.hid ho2; have HB2 := Lib.hid hb2
  clear k2 ho2 hb2
  go_wp2_with fail
  go_loopw [10, 11, 12, 13] (fun ov iv dv nv wr => ∃ (i : Nat) (l : List Nat) (xs : List Int), i ≤ r.vars.length ∧ iv = .int .i64 i ∧ l.length = r.vars.length ∧ (∀ j, nget l j < 65536) ∧ xs.length = i ∧ xs ++ refW r (r.vars.length - i) i l = refW r r.vars.length 0 l0 ∧
    wr.heap[w.heap.size]? = some (.cells #[.int .i64 r.kind, .slice va r.vars.length vc, .slice na r.nums.length nc, .int .i64 r.n] 35 (0, 0)) ∧ wr.ownsRow W.heap.size 53 1 (.slice (some ⟨g, 0, none⟩) r.vars.length cap) r.vars.length (natsV l) ∧ wr.ownsRow W.heap.size 3 1 ov xs.length (intsV xs) ∧ Below w.heap.size w wr ∧ W.heap.size ≤ wr.heap.size) (fun _ iv _ _ _ => r.vars.length - (intOf iv).toNat)
  case atStart => exact ⟨0, l0, [], Nat.zero_le _, rfl, HL0N.out, HL0B.out, rfl, rfl, HK2.out, HO2.out, World.ownsRow_nil _ _ _ _, HB2.out, hs2⟩
  case round =>
    obtain ⟨i, l, xs, hi, rfl, hln, hlb, hxs, hwit, kr, hol2, hov, hbr, hsr⟩ := hrel
    have HXN := Lib.hid hxs
    have hxs4 : xs.length ≤ 4 := by omega
    clear hxs
    have HLN := Lib.hid hln; have HLB := Lib.hid hlb; have HWIT := Lib.hid hwit; have KR := Lib.hid kr; have HOL := Lib.hid hol2; have HOV := Lib.hid hov; have HBR := Lib.hid hbr
    clear hln hlb hwit kr hol2 hov hbr HK2 HO2 HB2 HL0N HL0B
    by_cases hir : i < r.vars.length
    · have e0 : wr.cell? ⟨g, i, none⟩ = some (.int .u64 (nget l i : Nat)) := by
        rw [HOL.out.cellAt i (by omega), natsV_get _ _ (by rw [HLN.out]; exact hir)]
      have hirI : (i : Int) < ((r.vars.length : Nat) : Int) := by omega
      obtain ⟨d, hd⟩ : ∃ d, d = nget l i := ⟨_, rfl⟩
      have hd16 : d < 65536 := by rw [hd]; exact HLB.out i
      have hdu : U64 d := Nat.lt_trans hd16 (by decide)
      rw [← hd] at e0
      obtain ⟨oa, oc, rfl⟩ := own_form HOV.out
      have HDD := Lib.hid hd
      clear hd
      have hset : ∀ j, (l.set i (sAnd d (bitN j))).length = r.vars.length := fun j => by rw [List.length_set]; exact HLN.out
      have HSET := Lib.hid hset
      clear hset
      go_wp2_with fail
      go_loopw [13] (fun nv wr => ∃ (k : Nat) (l2 : List Nat), k ≤ 16 ∧ nv = .int .i64 k ∧ ((k = 0 ∧ l2 = l) ∨ (0 < k ∧ l2 = l.set i (sAnd d (bitN (k - 1))))) ∧ (∀ j, j < k → possD r (l.set i (sAnd d (bitN j))) = false) ∧
        wr.heap[w.heap.size]? = some (.cells #[.int .i64 r.kind, .slice va r.vars.length vc, .slice na r.nums.length nc, .int .i64 r.n] 35 (0, 0)) ∧ wr.ownsRow W.heap.size 53 1 (.slice (some ⟨g, 0, none⟩) r.vars.length cap) r.vars.length (natsV l2) ∧ wr.ownsRow W.heap.size 3 1 (.slice oa xs.length oc) xs.length (intsV xs) ∧ Below w.heap.size w wr ∧ W.heap.size ≤ wr.heap.size) (fun nv _ => 16 - (intOf nv).toNat)
      case atStart => exact ⟨0, l, Nat.zero_le _, rfl, .inl ⟨rfl, rfl⟩, fun j hj => absurd hj (Nat.not_lt_zero _), KR.out, HOL.out, HOV.out, HBR.out, hsr⟩
      case round =>
        obtain ⟨k, l2, hk, rfl, hl2, hno, kq, holq, hovq, hbq, hsq⟩ := hrel
        have HNO := Lib.hid hno; have KQ := Lib.hid kq; have HOLQ := Lib.hid holq; have HOVQ := Lib.hid hovq; have HBQ := Lib.hid hbq
        have hl2n : l2.length = r.vars.length := by
          rcases hl2 with ⟨_, h⟩ | ⟨_, h⟩
          · rw [h]; exact HLN.out
          · rw [h]; exact HSET.out _
        have hl2s : ∀ x, l2.set i x = l.set i x := fun x => by
          rcases hl2 with ⟨_, h⟩ | ⟨_, h⟩
          · rw [h]
          · rw [h, List.set_set]
        have HL2 := Lib.hid hl2; have HL2N := Lib.hid hl2n; have HL2S := Lib.hid hl2s
        clear hno kq holq hovq hbq hl2 hl2n hl2s KR HOL HOV HBR e0
        by_cases hlt : k < 16
        · have hltI : (k : Int) < 16 := by omega
          have hk64 : k < 64 := by omega
          have hbu : U64 (bitN k) := U64.bit hk64
          have e1 : wr.cell? ⟨g, i, none⟩ = some (.int .u64 (nget l2 i : Nat)) := by
            rw [HOLQ.out.cellAt i (by omega), natsV_get _ _ (by rw [HL2N.out]; exact hir)]
          have f1 : wr.frozen? ⟨g, i, none⟩ = false := HOLQ.out.frozenAt i
          have zg : g < wr.heap.size := (HOLQ.out.lt g rfl).2
          have ho3 := own_put (i := i) (x := sAnd d (bitN k)) HOLQ.out
          rw [HL2S.out] at ho3
          have hb3 := HBQ.out.setCell (p := ⟨g, i, none⟩) (show w.heap.size ≤ g by omega) (.int .u64 (sAnd d (bitN k) : Nat))
          obtain ⟨curg, hcg, _⟩ := own_block HOLQ.out
          have hk3 := (Below.heap_setCell wr ⟨g, i, none⟩ (.int .u64 (sAnd d (bitN k) : Nat)) w.heap.size (by show w.heap.size ≠ g; omega)).trans KQ.out
          have hv3 := own_setF HOVQ.out hcg (o := i) (x := .int .u64 (sAnd d (bitN k) : Nat)) (by decide)
          have hs3 : W.heap.size ≤ (wr.setCell ⟨g, i, none⟩ (.int .u64 (sAnd d (bitN k) : Nat))).heap.size := by simpa [World.setCell] using hsq
          have HO3 := Lib.hid ho3; have HB3 := Lib.hid hb3; have HK3 := Lib.hid hk3; have HV3 := Lib.hid hv3
          clear ho3 hb3 hk3 hv3 hcg
          go_upto_region 11 with (go_at_call 54; (with_reducible refine (HONE.out k hk64 _).mono ?_); rintro ee w' ⟨rfl, hww⟩; rw [hww]; clear hww w')
          refine abs_wp (fun W4 => W4.heap[w.heap.size]? = some (.cells #[.int .i64 r.kind, .slice va r.vars.length vc, .slice na r.nums.length nc, .int .i64 r.n] 35 (0, 0)) ∧ W4.ownsRow W.heap.size 53 1 (.slice (some ⟨g, 0, none⟩) r.vars.length cap) r.vars.length (natsV (l.set i (sAnd d (bitN k)))) ∧ W4.ownsRow W.heap.size 3 1 (.slice oa xs.length oc) xs.length (intsV xs) ∧ Below w.heap.size w W4 ∧ W.heap.size ≤ W4.heap.size) ⟨HK3.out, HO3.out, HV3.out, HB3.out, hs3⟩ ?_
          clear HO3 HB3 HK3 HV3 hs3 e1 f1 zg HOLQ HOVQ HBQ KQ
          rintro W4 ⟨k4, ho4, hv4, hb4, hs4⟩
          have c0 : W4.cell? ⟨w.heap.size, 0, none⟩ = some (.int .i64 r.kind) := by rw [cell_of_row _ _ _ _ _ _ k4]; rfl
          have c1 : W4.cell? ⟨w.heap.size, 1, none⟩ = some (.slice va r.vars.length vc) := by rw [cell_of_row _ _ _ _ _ _ k4]; rfl
          have c2 : W4.cell? ⟨w.heap.size, 2, none⟩ = some (.slice na r.nums.length nc) := by rw [cell_of_row _ _ _ _ _ _ k4]; rfl
          have c3 : W4.cell? ⟨w.heap.size, 3, none⟩ = some (.int .i64 r.n) := by rw [cell_of_row _ _ _ _ _ _ k4]; rfl
          have hus := owns_us ho4 (by omega) (HSET.out k)
          have HC := Lib.hid (refCan_any r HR0.out _ (HSET.out k) (fun j _ => set_lt HLB.out (Nat.lt_of_le_of_lt Nat.and_le_left hd16) j) _ _ _ W4 ((HR.out.below hb4 hB).mono (show B ≤ W4.heap.size by omega)) hus (Nat.le_refl _))
          unfold ruleV at HC
          have HK4 := Lib.hid k4; have HO4 := Lib.hid ho4; have HV4 := Lib.hid hv4; have HB4 := Lib.hid hb4
          have z4 : w.heap.size < W4.heap.size := (Array.getElem?_eq_some_iff.1 k4).1
          clear k4 ho4 hv4 hb4 hus
          go_wp2_with fail
          refine HC.out.mono ?_
          rintro e W5 ⟨rfl, hb5⟩
          have HK5 := Lib.hid (heap_later HK4.out hb5 z4); have HO5 := Lib.hid (own_ck HO4.out (CK.below hb5)); have HV5 := Lib.hid (own_ck HV4.out (CK.below hb5)); have HB5 := Lib.hid (HB4.out.trans (hb5.mono HB4.out.size))
          have hs5 : W.heap.size ≤ W5.heap.size := Nat.le_trans hs4 hb5.size
          clear hb5 c0 c1 c2 c3 HK4 HO4 HV4 HB4 HC
          obtain ⟨ps, hps⟩ : ∃ ps, ps = possD r (l.set i (sAnd d (bitN k))) := ⟨_, rfl⟩
          rw [← hps]
          cases hpk : ps
          · have HPK : Hid (possD r (l.set i (sAnd d (bitN k))) = false) := Lib.hid (by rw [← hps]; exact hpk)
            clear hps hpk
            go_wp2
            go_roundw
            case rel => exact ⟨k + 1, l.set i (sAnd d (bitN k)), by omega, by go_num, .inr ⟨by omega, by rw [Nat.add_sub_cancel]⟩, fun j hj => if h : j = k then (by subst h; exact HPK.out) else HNO.out j (by omega), HK5.out, HO5.out, HV5.out, HB5.out, hs5⟩
            case measure => simp [intOf]; omega
          · have HSTEP : Hid (refW r (r.vars.length - (i + 1) + 1) i l = (k : Int) :: refW r (r.vars.length - (i + 1)) (i + 1) (l.set i (sAnd d (bitN k)))) := Lib.hid (by
              have hf : (List.range 16).find? (fun v => possD r (l.set i (sAnd d (bitN v)))) = some k := find_range hlt (by rw [← hps]; exact hpk) HNO.out
              rw [HDD.out] at hf
              show (match (List.range 16).find? (fun v => possD r (l.set i (sAnd (nget l i) (bitN v)))) with | some v => _ | none => _) = _
              rw [hf, HDD.out])
            clear hps hpk
            have hnw := Below.new1 W5 (.cells #[.int .i64 (k : Nat)] 3)
            have HNW := Lib.hid hnw
            have hYs := HB5.out.size
            clear hnw
            go_wp2_with (at_builtin; refine wpList_append_own _ rfl _ _ 30 rfl W.heap.size 3 i0 (.int .i64 0) 1 8 Tryd.underlying30 hin hz0 hz1 hz2 rfl (by decide) _ _ _ rfl (HV5.out.alloc _) ⟨W5.heap.size, 0, none⟩ 1 1 (intsV [(k : Int)]) rfl rfl ?c1 ?c2 ?c3 ?c4 ?c5 ?_)
            case c1 =>
              intro q u hq
              match q, hq with
              | 0, hq => cases hq; first | (rw [Addr.add_lit]; exact cell_of_one (heap_new0 _ _)) | rfl
            case c2 => exact ints_one _
            case c3 => unfold maxLen; omega
            case c4 => omega
            case c5 => first | (simp; omega) | omega
            intro v' w9 hown9 hgrow9 _
            rw [intsV_append] at hown9
            have hov1 := own_ck HV5.out (CK.below HNW.out)
            have hol1 := own_ck HO5.out (CK.below HNW.out)
            have hk1 := heap_later HK5.out HNW.out (Array.getElem?_eq_some_iff.1 HK5.out).1
            have hk9 := (hgrow9.block _ (Array.getElem?_eq_some_iff.1 hk1).1 (fun hh => own_apart hov1 hk1 (by decide) _ hh.symm rfl)).trans hk1
            have hol9 := hol1.kept hgrow9 (own_own hol1 hov1 (by decide))
            have hb9 := (HB5.out.trans (HNW.out.mono hYs)).grown hgrow9 (by simp; omega) (fun q hq => by have := (hov1.lt q hq).1; omega)
            have hs9 := hgrow9.size
            rw [World.size_alloc] at hs9
            have HO9 := Lib.hid hown9; have HL9 := Lib.hid hol9; have HB9 := Lib.hid hb9; have HK9 := Lib.hid hk9
            have HW9 : Hid ((xs ++ [(k : Int)]) ++ refW r (r.vars.length - (i + 1)) (i + 1) (l.set i (sAnd d (bitN k))) = refW r r.vars.length 0 l0) := Lib.hid (by
              rw [← HWIT.out, show r.vars.length - i = (r.vars.length - (i + 1)) + 1 by omega, List.append_assoc]
              exact congrArg (xs ++ ·) HSTEP.out.symm)
            clear hown9 hgrow9 hov1 hol1 hk1 hk9 hol9 hb9
            go_wp2
            go_roundw
            case rel => exact ⟨i + 1, l.set i (sAnd d (bitN k)), xs ++ [(k : Int)], by omega, by go_num, by rw [List.length_set]; exact HLN.out, set_lt HLB.out (Nat.lt_of_le_of_lt Nat.and_le_left hd16), by rw [List.length_append, HXN.out]; rfl, HW9.out, HK9.out, HL9.out, by rw [List.length_append]; exact HO9.out, HB9.out, by omega⟩
            case measure => simp [intOf]; omega
        · have hk16 : k = 16 := by omega
          have hltI : ¬ (k : Int) < 16 := by omega
          have hl16 : l2 = l.set i (sAnd d (bitN 15)) := by
            rcases HL2.out with ⟨h, _⟩ | ⟨_, h⟩
            · omega
            · rw [h, hk16]
          have HSTEP : Hid (refW r (r.vars.length - (i + 1) + 1) i l = (k : Int) :: refW r (r.vars.length - (i + 1)) (i + 1) (l.set i (sAnd d (bitN 15)))) := Lib.hid (by
            have hf : (List.range 16).find? (fun v => possD r (l.set i (sAnd d (bitN v)))) = none := find_no (fun j hj => HNO.out j (by omega))
            rw [HDD.out] at hf
            show (match (List.range 16).find? (fun v => possD r (l.set i (sAnd (nget l i) (bitN v)))) with | some v => _ | none => _) = _
            rw [hf, HDD.out, hk16]; rfl)
          have hoq := HOLQ.out
          rw [hl16] at hoq
          have HOLR := Lib.hid hoq
          clear hoq hl16 hk16
          have hnw := Below.new1 wr (.cells #[.int .i64 (k : Nat)] 3)
          have HNW := Lib.hid hnw
          have hYs := HBQ.out.size
          clear hnw
          go_wp2_with (at_builtin; refine wpList_append_own _ rfl _ _ 30 rfl W.heap.size 3 i0 (.int .i64 0) 1 8 Tryd.underlying30 hin hz0 hz1 hz2 rfl (by decide) _ _ _ rfl (HOVQ.out.alloc _) ⟨wr.heap.size, 0, none⟩ 1 1 (intsV [(k : Int)]) rfl rfl ?c1 ?c2 ?c3 ?c4 ?c5 ?_)
          case c1 =>
            intro q u hq
            match q, hq with
            | 0, hq => cases hq; first | (rw [Addr.add_lit]; exact cell_of_one (heap_new0 _ _)) | rfl
          case c2 => exact ints_one _
          case c3 => unfold maxLen; omega
          case c4 => omega
          case c5 => first | (simp; omega) | omega
          intro v' w9 hown9 hgrow9 _
          rw [intsV_append] at hown9
          have hov1 := own_ck HOVQ.out (CK.below HNW.out)
          have hol1 := own_ck HOLR.out (CK.below HNW.out)
          have hk1 := heap_later KQ.out HNW.out (Array.getElem?_eq_some_iff.1 KQ.out).1
          have hk9 := (hgrow9.block _ (Array.getElem?_eq_some_iff.1 hk1).1 (fun hh => own_apart hov1 hk1 (by decide) _ hh.symm rfl)).trans hk1
          have hol9 := hol1.kept hgrow9 (own_own hol1 hov1 (by decide))
          have hb9 := (HBQ.out.trans (HNW.out.mono hYs)).grown hgrow9 (by simp; omega) (fun q hq => by have := (hov1.lt q hq).1; omega)
          have hs9 := hgrow9.size
          rw [World.size_alloc] at hs9
          have HO9 := Lib.hid hown9; have HL9 := Lib.hid hol9; have HB9 := Lib.hid hb9; have HK9 := Lib.hid hk9
          have HW9 : Hid ((xs ++ [(k : Int)]) ++ refW r (r.vars.length - (i + 1)) (i + 1) (l.set i (sAnd d (bitN 15))) = refW r r.vars.length 0 l0) := Lib.hid (by
            rw [← HWIT.out, show r.vars.length - i = (r.vars.length - (i + 1)) + 1 by omega, List.append_assoc]
            exact congrArg (xs ++ ·) HSTEP.out.symm)
          clear hown9 hgrow9 hov1 hol1 hk1 hk9 hol9 hb9
          go_wp2
          go_roundw
          case rel => exact ⟨i + 1, l.set i (sAnd d (bitN 15)), xs ++ [(k : Int)], by omega, by go_num, by rw [List.length_set]; exact HLN.out, set_lt HLB.out (Nat.lt_of_le_of_lt Nat.and_le_left hd16), by rw [List.length_append, HXN.out]; rfl, HW9.out, HK9.out, HL9.out, by rw [List.length_append]; exact HO9.out, HB9.out, by omega⟩
          case measure => simp [intOf]; omega
    · have hi2 : i = r.vars.length := by omega
      subst hi2
      have HXS : Hid (refW r r.vars.length 0 l0 = xs) := Lib.hid (by rw [← HWIT.out, Nat.sub_self]; simp [refW])
      go_wp2
      go_ret
      rw [HXS.out]
      exact ⟨_, rfl, own_mono HOV.out (by omega), HBR.out⟩
end Go.Proofs.YtdmmegmkdhinjaaDoor

namespace Go.Proofs.YtdmmegmkdhinjaaDoor
open Go Go.RowKit

theorem bitN_ne (v : Nat) : bitN v ≠ 0 := fun h => by have := bitN_testBit v v; rw [h, Nat.zero_testBit] at this; simp at this
theorem and_bit (d v : Nat) : sAnd d (bitN v) = if d.testBit v then bitN v else 0 := by
  apply Nat.eq_of_testBit_eq
  intro i
  have h1 : (sAnd d (bitN v)).testBit i = (d.testBit i && (bitN v).testBit i) := Nat.testBit_and d (bitN v) i
  rw [h1, bitN_testBit]
  by_cases hv : v = i
  · subst hv
    cases d.testBit v <;> simp [bitN_testBit]
  · cases d.testBit v <;> simp [bitN_testBit, hv]
theorem least_bit {v : Nat} (hv : v < 16) (num : Int) : leastN (bitN v) num = num * v := by
  have hb := bit16 hv
  have h1 := (hi_spec hb (bitN_ne v)).1
  have h2 := (lo_spec hb (bitN_ne v)).1
  rw [bitN_testBit] at h1 h2
  have e1 : v = hiD (bitN v) := by simpa using h1
  have e2 : v = ctzN (bitN v) := by simpa using h2
  unfold leastN
  rw [← e1, ← e2]
  split <;> rfl
theorem sumD_congr : ∀ (ns : List Int) (ds ds' : List Nat), ds.length = ds'.length → (∀ k, k < ds.length → leastN (nget ds k) (iget ns k) = leastN (nget ds' k) (iget ns k)) → sumD ns ds = sumD ns ds'
  | [], ds, ds', _, _ => by cases ds <;> cases ds' <;> rfl
  | n :: ns, [], [], _, _ => rfl
  | n :: ns, [], d' :: ds', h, _ => by simp at h
  | n :: ns, d :: ds, [], h, _ => by simp at h
  | n :: ns, d :: ds, d' :: ds', h, hk => by
    have h0 : leastN d n = leastN d' n := hk 0 (by simp)
    have ih := sumD_congr ns ds ds' (by simpa using h) (fun k hk' => hk (k + 1) (by simpa using hk'))
    show leastN d n + sumD ns ds = leastN d' n + sumD ns ds'
    rw [h0, ih]
theorem diff_split : ∀ (ds : List Nat) (t i : Nat), i < ds.length → diffD ds t = true → ∃ v ∈ elems (nget ds i), diffD (ds.set i (bitN v)) t = true
  | [], _, _, h, _ => by simp at h
  | d :: ds, t, 0, _, h => by
    unfold diffD at h
    obtain ⟨v, hv, hd⟩ := List.any_eq_true.1 h
    obtain ⟨h64, hb⟩ := mem_elems.1 hv
    have hb2 := sDiff_testBit d t v
    rw [hb] at hb2
    have hb3 : d.testBit v = true ∧ t.testBit v = false := by revert hb2; cases d.testBit v <;> cases t.testBit v <;> simp
    refine ⟨v, mem_elems.2 ⟨h64, hb3.1⟩, ?_⟩
    show diffD (bitN v :: ds) t = true
    unfold diffD
    refine List.any_eq_true.2 ⟨v, mem_elems.2 ⟨h64, ?_⟩, hd⟩
    rw [sDiff_testBit, bitN_testBit, hb3.2]; simp
  | d :: ds, t, i + 1, hi, h => by
    unfold diffD at h
    obtain ⟨v0, hv0, hd⟩ := List.any_eq_true.1 h
    obtain ⟨v, hv, hd2⟩ := diff_split ds (sOr t (bitN v0)) i (by simpa using hi) hd
    refine ⟨v, hv, ?_⟩
    show diffD (d :: ds.set i (bitN v)) t = true
    unfold diffD
    exact List.any_eq_true.2 ⟨v0, hv0, hd2⟩
theorem poss_true {r : Dr} {ds : List Nat} (h : possD r ds = true) : (∀ k, k < ds.length → nget ds k ≠ 0) ∧ canD r ds = true := by
  unfold possD at h
  rw [Bool.and_eq_true] at h
  refine ⟨fun k hk he => ?_, h.2⟩
  have h1 := h.1
  have : ds.contains 0 = true := by
    rw [List.contains_iff_mem, ← he]
    unfold nget; rw [List.getElem?_eq_getElem hk]; exact List.getElem_mem hk
  rw [this] at h1; cases h1
/-- A rule that can hold can hold for one of the values of each domain. -/
theorem poss_split {r : Dr} {n : Int} (hr : ruleD r n = true) {l : List Nat} (hl : l.length = r.vars.length) (hb : ∀ j, nget l j < 65536) {i : Nat} (hi : i < l.length) (h : possD r l = true) : ∃ v ∈ elems (nget l i), possD r (l.set i (bitN v)) = true := by
  obtain ⟨hz, hc⟩ := poss_true h
  have hfull : ∀ v, possD r (l.set i (bitN v)) = canD r (l.set i (bitN v)) := fun v => poss_full fun k hk => by
    rw [List.length_set] at hk
    rw [nget_set]
    split
    · exact bitN_ne v
    · exact hz k hk
  have hdi := hb i
  have hzi := hz i hi
  by_cases k1 : r.kind = 1
  · obtain ⟨v, hv⟩ : ∃ v : Nat, v = if iget r.nums i < 0 then hiD (nget l i) else ctzN (nget l i) := ⟨_, rfl⟩
    have hv16 : v < 16 := by rw [hv]; split; exact (hi_spec hdi hzi).2.1; exact (lo_spec hdi hzi).2.1
    have hvb : (nget l i).testBit v = true := by rw [hv]; split; exact (hi_spec hdi hzi).1; exact (lo_spec hdi hzi).1
    refine ⟨v, mem_elems.2 ⟨by omega, hvb⟩, ?_⟩
    rw [hfull]
    unfold canD at hc ⊢
    rw [if_pos k1] at hc ⊢
    rw [← sumD_congr r.nums l (l.set i (bitN v)) (by rw [List.length_set]) (fun k hk => ?_)]
    · exact hc
    · rw [nget_set]
      split
      · rename_i he
        rw [← he.1, least_bit hv16]
        unfold leastN
        rw [hv]
        split <;> rfl
      · rfl
  by_cases k2 : r.kind = 2
  · unfold canD at hc
    rw [if_neg k1, if_pos k2] at hc
    obtain ⟨v, hv, hd⟩ := diff_split l 0 i hi hc
    refine ⟨v, hv, ?_⟩
    rw [hfull]
    unfold canD
    rw [if_neg k1, if_pos k2]; exact hd
  have hf := (ruleD_parts hr).2.2.2.2.2
  have h2 : l.length = 2 := by
    unfold formD at hf
    rw [if_neg k1, if_neg k2] at hf
    split at hf
    · simp only [Bool.and_eq_true, beq_iff_eq] at hf; omega
    · split at hf
      · simp only [Bool.and_eq_true, beq_iff_eq] at hf; omega
      · cases hf
  obtain ⟨a, b, ha, hbb, hta, htb, hh⟩ := (can_pair hr k1 k2 (hb 0) (hb 1) rfl rfl).1 hc
  have hi2 : i = 0 ∨ i = 1 := by omega
  rcases hi2 with rfl | rfl
  · refine ⟨a, mem_elems.2 ⟨by omega, hta⟩, ?_⟩
    rw [hfull]
    refine (can_pair hr k1 k2 (d0 := bitN a) (d1 := nget l 1) (bit16 ha) (hb 1) (by rw [nget_set, if_pos ⟨rfl, hi⟩]) (by rw [nget_set, if_neg (by omega)])).2 ⟨a, b, ha, hbb, by rw [bitN_testBit]; simp, htb, hh⟩
  · refine ⟨b, mem_elems.2 ⟨by omega, htb⟩, ?_⟩
    rw [hfull]
    refine (can_pair hr k1 k2 (d0 := nget l 0) (d1 := bitN b) (hb 0) (bit16 hbb) (by rw [nget_set, if_neg (by omega)]) (by rw [nget_set, if_pos ⟨rfl, hi⟩])).2 ⟨a, b, ha, hbb, hta, by rw [bitN_testBit]; simp, hh⟩
theorem refW_eq {r : Dr} {n : Int} (hr : ruleD r n = true) : ∀ (k i : Nat) (l : List Nat), i + k = l.length → l.length = r.vars.length → (∀ j, nget l j < 65536) → possD r l = true → refW r k i l = witD r k i l
  | 0, _, _, _, _, _, _ => rfl
  | k + 1, i, l, hik, hl, hb, h => by
    have hi : i < l.length := by omega
    obtain ⟨v, hv, hpv⟩ := poss_split hr hl hb hi h
    have hq : ∀ j, possD r (l.set i (sAnd (nget l i) (bitN j))) = ((nget l i).testBit j && possD r (l.set i (bitN j))) := fun j => by
      rw [and_bit]
      cases hj : (nget l i).testBit j
      · rw [if_neg (by decide), poss_zero (k := i) (by rw [List.length_set]; exact hi) (by rw [nget_set, if_pos ⟨rfl, hi⟩])]; rfl
      · rw [if_pos rfl, Bool.true_and]
    have hfe : (elems (nget l i)).find? (fun v => possD r (l.set i (bitN v))) = (List.range 64).find? (fun v => (nget l i).testBit v && possD r (l.set i (bitN v))) := by
      unfold elems
      rw [List.find?_filter]
      congr 1
      funext a
      rw [Bool.eq_iff_iff]
      simp
    obtain ⟨h64, hvb⟩ := mem_elems.1 hv
    obtain ⟨v0, hv0⟩ : ∃ v0, (List.range 64).find? (fun v => (nget l i).testBit v && possD r (l.set i (bitN v))) = some v0 := by
      cases hf : (List.range 64).find? (fun v => (nget l i).testBit v && possD r (l.set i (bitN v))) with
      | some v0 => exact ⟨v0, rfl⟩
      | none =>
        have := List.find?_eq_none.1 hf v (List.mem_range.2 h64)
        rw [hvb, hpv] at this
        exact absurd rfl this
    obtain ⟨g1, g2, g3⟩ := List.find?_range_eq_some.1 hv0
    rw [Bool.and_eq_true] at g1
    have hv16 : v0 < 16 := bit_lt16 (hb i) g1.1
    have hfr : (List.range 16).find? (fun v => possD r (l.set i (sAnd (nget l i) (bitN v)))) = some v0 := find_range hv16 (by rw [hq, g1.1, g1.2]; rfl) (fun j hj => by
      rw [hq]
      have := g3 j hj
      cases h1 : (nget l i).testBit j <;> cases h2 : possD r (l.set i (bitN j)) <;> rw [h1, h2] at this <;> first | rfl | cases this)
    have he : sAnd (nget l i) (bitN v0) = bitN v0 := by rw [and_bit, if_pos g1.1]
    show (match (List.range 16).find? (fun v => possD r (l.set i (sAnd (nget l i) (bitN v)))) with | some v => _ | none => _) = (match (elems (nget l i)).find? (fun v => possD r (l.set i (bitN v))) with | some v => _ | none => _)
    rw [hfe, hv0, hfr]
    dsimp only
    rw [he, refW_eq hr k (i + 1) (l.set i (bitN v0)) (by rw [List.length_set]; omega) (by rw [List.length_set]; exact hl) (set_lt hb (bit16 hv16)) g1.2]
theorem ofD_pad (l : List Nat) (vars : List Int) : ofD (padD l) vars = ofD l vars := by
  unfold ofD
  exact List.map_congr_left fun x _ => padD_get l x.toNat
theorem suppD_pad (l : List Nat) (r : Dr) (i : Nat) (v : Int) : suppD (padD l) r i v = suppD l r i v := by unfold suppD; rw [ofD_pad]
end Go.Proofs.YtdmmegmkdhinjaaDoor
