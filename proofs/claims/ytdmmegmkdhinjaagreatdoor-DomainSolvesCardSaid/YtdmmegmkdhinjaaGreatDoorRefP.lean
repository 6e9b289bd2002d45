/- The reference of Domain: run, Propagate. -/
import Derived.Test.YtdmmegmkdhinjaaGreatDoorPlainS
import Derived.Test.YtdmmegmkdhinjaaGreatDoorRefO
import Derived.Test.YtdmmegmkdhinjaaGreatDoorBF
namespace Go.Proofs.YtdmmegmkdhinjaaGreatDoor
open Go Go.RowKit
attribute [local go_sem] cell_grow u64_sAnd u64_sOr u64_sDiff sDiff_all zeqI zneI sAnd_bit_zero sAnd_bit_zeroN sAnd_bit_nonzero

/-- What stays true while the reference runs: st is the program's state, all and fs are the reference's own. -/
structure RunAt (p : Dp) (rs : Bool) (w : World) (dv rv : Value) (st : Sd) (all : List Nat) (fs : List Cut) (av lv : Value) (W : World) : Prop where
  eq : st.1 = padD all
  good : Good st
  alen : all.length = p.doms.length
  facts : rs = true → fs = st.2
  few : fs.length + totalD st.1 ≤ 128
  fit : ∀ i, i < fs.length → CFitN p.doms.length (cget fs i)
  short : ∀ i, i < fs.length → (cget fs i).why.length ≤ 128
  alls : W.ownsRow (w.heap.size + 1) 56 1 av all.length (natsV all)
  own : COwn W (w.heap.size + 1) lv fs
  box : W.heap[w.heap.size]? = some (.cells #[dv, rv] 25 (0, 0))
  low : Below w.heap.size w W
section
variable {p : Dp} {rs : Bool} {w : World} {dv rv : Value} {st : Sd} {all : List Nat} {fs : List Cut} {av lv : Value} {W W' : World}
theorem RunAt.below (h : RunAt p rs w dv rv st all fs av lv W) (hb : Below W.heap.size W W') : RunAt p rs w dv rv st all fs av lv W' :=
  ⟨h.eq, h.good, h.alen, h.facts, h.few, h.fit, h.short, own_ck h.alls (CK.below hb), h.own.ck (CK.below hb), heap_later h.box hb (Array.getElem?_eq_some_iff.1 h.box).1, h.low.trans (hb.mono h.low.size)⟩
theorem RunAt.alen8 (h : RunAt p rs w dv rv st all fs av lv W) : all.length ≤ 8 := by
  have := h.good.f.len; rw [h.eq] at this; unfold padD at this; simp at this; omega
theorem RunAt.us (h : RunAt p rs w dv rv st all fs av lv W) : Us W W.heap.size av all := owns_us h.alls (by have := h.alen8; omega) rfl
theorem RunAt.get (h : RunAt p rs w dv rv st all fs av lv W) (i : Nat) : nget st.1 i = nget all i := by rw [h.eq, padD_get]
theorem RunAt.lt (h : RunAt p rs w dv rv st all fs av lv W) (i : Nat) : nget all i < 65536 := by rw [← h.get]; exact h.good.f.lt i
theorem RunAt.cts (h : RunAt p rs w dv rv st all fs av lv W) : Cts W W.heap.size lv fs := h.own.cts (by have := h.few; omega) (fun i hi => by have := h.short i hi; omega)
theorem RunAt.step {x v n i : Nat} {y : List Int} {lv' : Value} (h : RunAt p rs w dv rv st all fs av lv W) (hx : iget (drget p.rules n).vars i = x) (hxl : x < all.length) (hv : v < 16) (hb : (nget all x).testBit v = true) (hs : suppD st.1 (drget p.rules n) i v = false)
    (hy : y = if rs then (reasonD p fs ⟨x, v, n, []⟩).why else []) (ho : COwn W' (w.heap.size + 1) lv' (fs ++ [⟨x, v, n, y⟩])) (ha : W'.ownsRow (w.heap.size + 1) 56 1 av all.length (natsV (all.set x (sDiff (nget all x) (bitN v)))))
    (hbx : W'.heap[w.heap.size]? = some (.cells #[dv, rv] 25 (0, 0))) (hl : Below w.heap.size w W') :
    RunAt p rs w dv rv (cutV p rs n i st v) (all.set x (sDiff (nget all x) (bitN v))) (fs ++ [⟨x, v, n, y⟩]) av lv' W' ∧ totalD (cutV p rs n i st v).1 + 1 = totalD st.1 := by
  have hx8 : x < 8 := by have := h.alen8; omega
  have hm : v ∈ elems (nget st.1 x) := mem_elems.2 ⟨by omega, by rw [h.get]; exact hb⟩
  obtain ⟨e1, e2⟩ := cut_drop (rs := rs) h.good hx hx8 hm hs
  have hfew := h.few
  have ht : totalD (cutV p rs n i st v).1 + 1 = totalD st.1 := by rw [e1]; exact e2
  refine ⟨⟨?_, h.good.cut hx hx8 hm, by rw [List.length_set]; exact h.alen, fun hrs => ?_, by rw [List.length_append]; simp; omega, fun k hk => ?_, fun k hk => ?_, by rw [List.length_set]; exact ha, ho, hbx, hl⟩, ht⟩
  · rw [e1]
    show st.1.set x _ = _
    rw [← padD_set _ hxl, ← h.eq, h.get]
  · rw [e1, hy, hrs]
    simp only [if_true]
    rw [h.facts hrs]; rfl
  · rw [cget_snoc]
    split
    · exact h.fit k (by assumption)
    · rw [if_pos (by simp at hk; omega)]
      exact ⟨x, v, rfl, by rw [← h.alen]; exact hxl, rfl, hv⟩
  · rw [cget_snoc]
    split
    · exact h.short k (by assumption)
    · rw [if_pos (by simp at hk; omega)]
      show y.length ≤ 128
      rw [hy]
      cases rs
      · simp
      · simp only [if_true]; exact Nat.le_trans (reasonD_length _ _ _) (by omega)
end
theorem Row.via {w w1 w2 : World} {B N sz n : Nat} {v : Value} {c : Nat → Value} (h : Row w1 B sz v n c) (h1 : Below N w w1) (h2 : Below N w w2) (hB : B ≤ N) : Row w2 B sz v n c := by
  obtain ⟨hn, a, cap, hv, hc, hm, hr⟩ := h
  refine ⟨hn, a, cap, hv, hc, hm, fun h0 => ?_⟩
  obtain ⟨b, off, ha, hbB, hcell⟩ := hr h0
  exact ⟨b, off, ha, hbB, fun i hi => (h2.cell (p := ⟨b, off + i, none⟩) (Nat.lt_of_lt_of_le hbB hB)).trans ((h1.cell (p := ⟨b, off + i, none⟩) (Nat.lt_of_lt_of_le hbB hB)).symm.trans (hcell i hi))⟩
theorem RuleAt.via {w w1 w2 : World} {B N : Nat} {r : Dr} {vv nv : Value} (h : RuleAt w1 B r vv nv) (h1 : Below N w w1) (h2 : Below N w w2) (hB : B ≤ N) : RuleAt w2 B r vv nv := ⟨Row.via h.vars h1 h2 hB, Row.via h.nums h1 h2 hB⟩
/-- The reference's run, read off the program's. -/
def refRes (p : Dp) (rs : Bool) : Sd := runD p rs (padD p.doms)
def RunPost (p : Dp) (rs : Bool) (w : World) (e : Ending) (w' : World) : Prop := ∃ av lv all fs, e = .returned (.tuple #[av, lv]) ∧ (refRes p rs).1 = padD all ∧ all.length = p.doms.length ∧ (rs = true → fs = (refRes p rs).2) ∧ w'.ownsRow w.heap.size 56 1 av all.length (natsV all) ∧ COwn w' w.heap.size lv fs ∧ Below w.heap.size w w'
theorem COwn.mono {w : World} {base base' : Nat} {v : Value} {fs : List Cut} (h : COwn w base v fs) (hb : base' ≤ base) : COwn w base' v fs := by
  obtain ⟨cs, h1, h2⟩ := h
  exact ⟨cs, own_mono h1 hb, fun i hi => by
    obtain ⟨a1, a2, a3, yv, a5, a6⟩ := h2 i hi
    exact ⟨a1, a2, a3, yv, a5, own_mono a6 hb⟩⟩
theorem RunAt.post {p : Dp} {rs : Bool} {w : World} {dv rv : Value} {st : Sd} {all : List Nat} {fs : List Cut} {av lv : Value} {W : World} (h : RunAt p rs w dv rv st all fs av lv W) (he : st = refRes p rs) : RunPost p rs w (.returned (.tuple #[av, lv])) W :=
  ⟨av, lv, all, fs, rfl, by rw [← he]; exact h.eq, h.alen, fun hr => by rw [← he]; exact h.facts hr, own_mono h.alls (Nat.le_succ _), h.own.mono (Nat.le_succ _), h.low⟩
theorem RunAt.start {p : Dp} (hpo : probD p = true) (rs : Bool) {w : World} {dv rv av : Value} {W : World} (ha : W.ownsRow (w.heap.size + 1) 56 1 av p.doms.length (natsV p.doms)) (hb : W.heap[w.heap.size]? = some (.cells #[dv, rv] 25 (0, 0))) (hl : Below w.heap.size w W) :
    RunAt p rs w dv rv (padD p.doms, []) p.doms [] av (.slice none 0 0) W :=
  ⟨rfl, Good.start (padD_ok hpo), rfl, fun _ => rfl, (Good.start (padD_ok hpo)).few, fun i hi => absurd hi (Nat.not_lt_zero _), fun i hi => absurd hi (Nat.not_lt_zero _), ha, COwn.nil _ _, hb, hl⟩
theorem pad_take (l : List Nat) : (padD l).take l.length = l := by unfold padD; simp
theorem run_zero {p : Dp} {rs : Bool} {k : Nat} (hk : k < p.doms.length) (h : nget p.doms k = 0) : (padD p.doms, []) = refRes p rs := by
  unfold refRes runD
  rw [pad_take, if_pos]
  rw [List.contains_iff_mem, ← h]
  simp [nget, hk]
theorem run_full {p : Dp} {rs : Bool} (h : ∀ k, k < p.doms.length → nget p.doms k ≠ 0) : roundsD p rs (totalD (padD p.doms) + 1) (padD p.doms, []) = refRes p rs := by
  unfold refRes runD
  rw [pad_take, if_neg]
  rw [List.contains_iff_mem]
  intro hc
  obtain ⟨k, hk, e⟩ := List.mem_iff_getElem.1 hc
  exact h k hk (by simp [nget, hk, e])
set_option maxRecDepth 100000 in
set_option maxHeartbeats 8000000 in
theorem refRun_any (p : Dp) (hpo : probD p = true) (rs : Bool) (dv rv : Value) (w : World) {B : Nat} (hdv : Us w B dv p.doms) (hrv : DRls w B rv p.rules) (hB : B ≤ w.heap.size) :
    Calls Tryz.prog 48 #[.agg #[dv, rv], .bool rs] w (RunPost p rs w) := by
  have HDV := Lib.hid hdv; have HRV := Lib.hid hrv; have HPO := Lib.hid hpo
  have HPP := Lib.hid (probD_parts hpo)
  have hn8 := HPP.out.2.1
  have hr12 := HPP.out.2.2.1
  have hn1 := HPP.out.1
  have hdl := hdv.1
  obtain ⟨da, dc, rfl⟩ := hdv.slice
  obtain ⟨ra, rc, rfl⟩ := hrv.slice
  obtain ⟨i0, hin, hz0, hz1, hz2⟩ := info_parts infoU
  clear hdv hrv hpo
  have K0 := Lib.hid (heap_new0 w (.cells #[.slice da p.doms.length dc, .slice ra p.rules.length rc] 25)); have HB0 := Lib.hid (Below.new1 w (.cells #[.slice da p.doms.length dc, .slice ra p.rules.length rc] 25))
  have HUS := Lib.hid (HDV.out.below HB0.out hB)
  go_enter Tryz.func48, Tryz.ntmps48
  go_wp2_with (at_builtin; refine wpList_append_row rfl _ _ 22 rfl (w.heap.size + 1) 56 i0 (.int .u64 0) 1 8 Tryz.underlying22 hin hz0 hz1 hz2 rfl (by decide) (.slice none 0 0) 0 [] rfl (World.ownsRow_nil _ _ _ _) (.slice da p.doms.length dc) p.doms.length _ B rfl HUS.out (natsV p.doms) (by rw [natsV_length, Nat.mul_one]) ?c1 (natsV_one _) ?c3 ?c4 ?c5 ?_)
  case c1 => exact fun i hi => natsV_get _ _ (by omega)
  case c3 => unfold maxLen; omega
  case c4 => omega
  case c5 => simp
  intro v1 w1 hown hgrow _
  have hb1 := HB0.out.grown hgrow (by simp) (fun q hq => by simp [Value.ownBlock] at hq)
  try simp only [Nat.zero_add, List.nil_append] at hown
  have k1 := (hgrow.block w.heap.size (by simp) (by simp [Value.ownBlock])).trans K0.out
  have hst0 := RunAt.start HPO.out rs hown k1 hb1
  obtain ⟨ga, ca, cura, rfl, hga, hgac, -, -, -⟩ := own_some hown (by omega)
  have HST := Lib.hid hst0
  have hgaw : w.heap.size < ga := by omega
  clear hown hgrow hb1 k1 hst0 K0 HB0 HUS hin hz0 hz1 hz2 i0 hga hgac cura
  obtain ⟨R, hR⟩ : ∃ R, R = refRes p rs := ⟨_, rfl⟩
  have HR := Lib.hid hR
  go_wp2_with fail
  go_loopw [8] (fun iv wr => ∃ k : Nat, k ≤ p.doms.length ∧ iv = .int .i64 k ∧ (∀ i, i < k → nget p.doms i ≠ 0) ∧ RunAt p rs w (.slice da p.doms.length dc) (.slice ra p.rules.length rc) (padD p.doms, []) p.doms [] (.slice (some ⟨ga, 0, none⟩) p.doms.length ca) (.slice none 0 0) wr) (fun iv _ => p.doms.length - (intOf iv).toNat)
  case atStart => exact ⟨0, Nat.zero_le _, rfl, fun i hi => absurd hi (Nat.not_lt_zero _), HST.out⟩
  case round =>
    clear HST
    obtain ⟨k, hk, rfl, hall, hst⟩ := hrel
    have HALL := Lib.hid hall; have HST := Lib.hid hst
    clear hall hst
    by_cases hlt : k < p.doms.length
    · have hkI : ((k : Nat) : Int) < ((p.doms.length : Nat) : Int) := by omega
      have e0 : wr.cell? ⟨ga, k, none⟩ = some (.int .u64 (nget p.doms k : Nat)) := by rw [HST.out.alls.cellAt k (by omega)]; exact natsV_get _ _ hlt
      by_cases hz : nget p.doms k = 0
      · have HF := Lib.hid (HST.out.post (run_zero (rs := rs) hlt hz))
        rw [hz] at e0
        clear hz hR
        go_wp2
        go_ret2
        exact HF.out
      · have HZ := Lib.hid hz
        have f1 : (((nget p.doms k : Nat) : Int) == 0) = false := by rw [beq_eq_false_iff_ne]; omega
        clear hz
        go_wp2
        go_roundw
        case rel => exact ⟨k + 1, by omega, by go_num, fun i hi => if h : i = k then h ▸ HZ.out else HALL.out i (by omega), HST.out⟩
        case measure => simp [intOf]; omega
    · have hk2 : k = p.doms.length := by omega
      subst hk2
      have HF := Lib.hid (And.intro ((run_full (rs := rs) HALL.out).trans hR.symm) (show NzD p.doms.length p.doms from HALL.out))
      clear HALL hR
      go_wp2_with fail
      go_loopg [7, 9] (totalD (padD p.doms) + 1) (fun g lv chv wr => ∃ (st : Sd) (all : List Nat) (fs : List Cut) (ch : Bool), chv = .bool ch ∧ RunAt p rs w (.slice da p.doms.length dc) (.slice ra p.rules.length rc) st all fs (.slice (some ⟨ga, 0, none⟩) p.doms.length ca) lv wr ∧
        (ch = true → roundsD p rs g st = R ∧ totalD st.1 < g ∧ NzD p.doms.length all) ∧ (ch = false → st = R))
      case atStart => exact ⟨_, _, _, true, rfl, HST.out, fun _ => ⟨HF.out.1, Nat.lt_succ_self _, HF.out.2⟩, fun h => by cases h⟩
      case round =>
        clear HST HF
        obtain ⟨st, all, fs, ch, rfl, hra, hc1, hc2⟩ := hrel
        have HRA := Lib.hid hra
        cases ch
        case false =>
          have HFIN := Lib.hid (hra.post ((hc2 rfl).trans HR.out))
          clear hra hc1 hc2
          go_wp2
          go_ret2
          exact HFIN.out
        case true =>
          have HC := Lib.hid (hc1 rfl)
          clear hra hc1 hc2
          go_wp2_with fail
          go_loopw [7, 9, 10] (fun lv chv iv wr => ∃ (j : Nat) (stj : Sd) (allj : List Nat) (fsj : List Cut) (ch : Bool), j ≤ p.rules.length ∧ iv = .int .i64 j ∧ chv = .bool ch ∧ RunAt p rs w (.slice da p.doms.length dc) (.slice ra p.rules.length rc) stj allj fsj (.slice (some ⟨ga, 0, none⟩) p.doms.length ca) lv wr ∧
            rulesD p rs (List.range' j (p.rules.length - j)) stj = rulesD p rs (List.range p.rules.length) st ∧ ChD st stj ch ∧ NzD p.doms.length allj) (fun _ _ iv _ => p.rules.length - (intOf iv).toNat)
          case atStart => exact ⟨0, _, _, _, false, Nat.zero_le _, rfl, rfl, HRA.out, by rw [List.range_eq_range', Nat.sub_zero], ChD.refl _, HC.out.2.2⟩
          case round =>
            clear HRA
            obtain ⟨j, stj, allj, fsj, ch, hj, rfl, rfl, hraj, hrj, hch, hnz⟩ := hrel
            have HNZ := Lib.hid hnz
            have HRA := Lib.hid hraj; have HRJ := Lib.hid hrj; have HCH := Lib.hid hch
            have c1 : wr.cell? ⟨w.heap.size, 1, none⟩ = some (.slice ra p.rules.length rc) := by rw [cell_of_row _ _ _ _ _ _ hraj.box]; rfl
            have z0 : w.heap.size < wr.heap.size := (Array.getElem?_eq_some_iff.1 hraj.box).1
            by_cases hlt : j < p.rules.length
            · obtain ⟨rb, ro, vv, nv, hrae, hrb, hrr, q0, q1, q2, q3⟩ := (HRV.out.below hraj.low hB).cells hlt
              subst hrae
              obtain ⟨va, vc, rfl⟩ := hrr.vars.slice
              obtain ⟨na, nc, rfl⟩ := hrr.nums.slice
              obtain ⟨wo, rfl⟩ : ∃ wo : World, wo = wr := ⟨_, rfl⟩
              have hr0 := HPP.out.2.2.2.2 j hlt
              have hjI : ((j : Nat) : Int) < ((p.rules.length : Nat) : Int) := by omega
              obtain ⟨r, hr⟩ : ∃ r, r = drget p.rules j := ⟨_, rfl⟩
              rw [← hr] at hrr q0 q1 q2 q3 hr0
              have HRR := Lib.hid hrr; have HLO := Lib.hid hraj.low; have HR0 := Lib.hid hr0; have HRD := Lib.hid hr
              have hvl4 := (ruleD_parts hr0).2.1
              have hn1w := Below.new1 wo (.cells #[.int .i64 r.kind, .slice va r.vars.length vc, .slice na r.nums.length nc, .int .i64 r.n] 69)
              have HRA2 := Lib.hid (HRA.out.below hn1w)
              have HKW := Lib.hid (heap_new0 wo (.cells #[.int .i64 r.kind, .slice va r.vars.length vc, .slice na r.nums.length nc, .int .i64 r.n] 69))
              clear hraj hrj hch hrr hn1w hr0 hr hnz
              go_wp2_with fail
              clear c1
              go_loopw [7, 9, 12] (fun lv chv iv wr => ∃ (i : Nat) (sti : Sd) (alli : List Nat) (fsi : List Cut) (ch : Bool), i ≤ r.vars.length ∧ iv = .int .i64 i ∧ chv = .bool ch ∧ RunAt p rs w (.slice da p.doms.length dc) (.slice (some ⟨rb, ro, none⟩) p.rules.length rc) sti alli fsi (.slice (some ⟨ga, 0, none⟩) p.doms.length ca) lv wr ∧
                placesD p rs j (List.range' i (r.vars.length - i)) sti = placesD p rs j (List.range r.vars.length) stj ∧ ChD st sti ch ∧ NzD p.doms.length alli ∧ wr.heap[wo.heap.size]? = some (.cells #[.int .i64 r.kind, .slice va r.vars.length vc, .slice na r.nums.length nc, .int .i64 r.n] 69 (0, 0))) (fun _ _ iv _ => r.vars.length - (intOf iv).toNat)
              case atStart => exact ⟨0, _, _, _, ch, Nat.zero_le _, rfl, rfl, HRA2.out, by rw [List.range_eq_range', Nat.sub_zero], HCH.out, HNZ.out, HKW.out⟩
              case round =>
                clear HRA2 HCH HRA HKW q0 q1 q2 q3
                clear HNZ
                obtain ⟨i, sti, alli, fsi, ch, hi, rfl, rfl, hrai, hri, hch, hnz, hrbk⟩ := hrel
                have HNZ := Lib.hid hnz
                have HRA := Lib.hid hrai; have HRI := Lib.hid hri; have HCH := Lib.hid hch; have HRK := Lib.hid hrbk
                have e1 : wr.cell? ⟨wo.heap.size, 1, none⟩ = some (.slice va r.vars.length vc) := by rw [cell_of_row _ _ _ _ _ _ hrbk]; rfl
                have y1 : wo.heap.size < wr.heap.size := (Array.getElem?_eq_some_iff.1 hrbk).1
                have hlow := hrai.low
                clear hri hch hrbk hnz
                by_cases hit : i < r.vars.length
                · obtain ⟨_, a', c', hae, _, _, hrow⟩ := (HRR.out.via HLO.out hlow hB).vars
                  cases hae
                  obtain ⟨vb, vo, rfl, hvB, hvcell⟩ := hrow (by omega)
                  have hrk := (ruleD_parts HR0.out).2.2.1 i hit
                  obtain ⟨x, hve⟩ : ∃ x : Nat, iget r.vars i = x := ⟨(iget r.vars i).toNat, by omega⟩
                  have hxn : x < p.doms.length := by omega
                  have hiI : ((i : Nat) : Int) < ((r.vars.length : Nat) : Int) := by omega
                  have d0 : wr.cell? ⟨vb, vo + i, none⟩ = some (.int .i64 (x : Nat)) := by rw [hvcell i (by omega)]; show some (Value.int .i64 (iget r.vars i)) = _; rw [hve]
                  have HXE : Hid (iget (drget p.rules j).vars i = (x : Int)) := Lib.hid (by rw [← HRD.out]; exact hve)
                  have zvb : vb < wr.heap.size := by have := hlow.size; omega
                  clear hvcell hrow hrk hve hrai hlow
                  go_wp2_with fail
                  clear d0 e1
                  have hx8 : x < 8 := by omega
                  have hxa : x < sti.1.length := by rw [HRA.out.good.f.len]; exact hx8
                  obtain ⟨sto, hsto⟩ : ∃ sto, sto = sweepD p rs j i sti := ⟨_, rfl⟩
                  have HRG : Hid ((List.range' 0 16).foldl (rcutD p rs j i) sti = sto) := Lib.hid ((sweep_ref HXE.out hxa (HRA.out.good.f.lt x)).trans hsto.symm)
                  have HSO := Lib.hid hsto
                  clear hsto hxa
                  go_loopw [7, 9, 14] (fun lv chv ev wr => ∃ (v : Nat) (ste : Sd) (alle : List Nat) (fse : List Cut) (ch : Bool), v ≤ 16 ∧ ev = .int .i64 v ∧ chv = .bool ch ∧ RunAt p rs w (.slice da p.doms.length dc) (.slice (some ⟨rb, ro, none⟩) p.rules.length rc) ste alle fse (.slice (some ⟨ga, 0, none⟩) p.doms.length ca) lv wr ∧
                    (List.range' v (16 - v)).foldl (rcutD p rs j i) ste = sto ∧ NzD p.doms.length alle ∧ ChD st ste ch ∧ wr.heap[wo.heap.size]? = some (.cells #[.int .i64 r.kind, .slice (some ⟨vb, vo, none⟩) r.vars.length vc, .slice na r.nums.length nc, .int .i64 r.n] 69 (0, 0))) (fun _ _ ev _ => 16 - (intOf ev).toNat)
                  case atStart => exact ⟨0, _, _, _, ch, Nat.zero_le _, rfl, rfl, HRA.out, HRG.out, HNZ.out, HCH.out, HRK.out⟩
                  case round =>
                    clear HRA HCH HRK y1 HRG HNZ
                    obtain ⟨v, ste, alle, fse, ch, hv, rfl, rfl, hrae, hre, hnz, hch, hrbk⟩ := hrel
                    have HNZ := Lib.hid hnz
                    have HRA := Lib.hid hrae; have HRE := Lib.hid hre; have HCH := Lib.hid hch; have HRK := Lib.hid hrbk
                    clear hre hch hnz
                    by_cases hvt : v < 16
                    · have hal := HRA.out.alen
                      have hxa : x < alle.length := by omega
                      have s0 : wr.cell? ⟨ga, x, none⟩ = some (.int .u64 (nget alle x : Nat)) := by
                        have := HRA.out.alls
                        rw [hal] at this
                        rw [this.cellAt x (by omega)]; exact natsV_get _ _ hxa
                      have zg : ga < wr.heap.size := by have := HRA.out.alls; rw [hal] at this; exact (this.lt ga rfl).2
                      have hu : U64 (nget alle x) := Nat.lt_trans (HRA.out.lt x) (by decide)
                      have HG1 := Lib.hid (refHas_any (nget alle x) (v : Int) wr hu)
                      have HR2 : Hid ((List.range' (v + 1) (16 - (v + 1))).foldl (rcutD p rs j i) (rcutD p rs j i ste v) = sto) := Lib.hid (by rw [← HRE.out, show 16 - v = (16 - (v + 1)) + 1 by omega, range_cons]; rfl)
                      have hvI : ((v : Nat) : Int) < 16 := by omega
                      have hxI : ((x : Nat) : Int) < ((p.doms.length : Nat) : Int) := by omega
                      obtain ⟨w3, rfl⟩ : ∃ w3 : World, w3 = wr := ⟨_, rfl⟩
                      rw [hasD_bit hvt] at HG1
                      have HSB := Lib.hid s0
                      clear hrae hrbk hu
                      cases hbt : (nget alle x).testBit v <;> rw [hbt] at HG1
                      case false =>
                        have hno : rcutD p rs j i ste v = ste := rcut_no HXE.out (by rw [HRA.out.get]; exact hbt)
                        rw [hno] at HR2
                        clear hbt hno HSB
                        go_wp2_with fail
                        refine (HG1.out).mono ?_
                        rintro e1 w4 ⟨rfl, hww⟩
                        rw [hww]; clear hww w4 HG1
                        go_wp2
                        go_roundw
                        case rel => exact ⟨v + 1, ste, alle, fse, ch, by omega, by go_num, rfl, HRA.out, HR2.out, HNZ.out, HCH.out, HRK.out⟩
                        case measure => simp [intOf]; omega
                      case true =>
                        have hyes : rcutD p rs j i ste v = cutV p rs j i ste v := rcut_yes HXE.out (by rw [HRA.out.get]; exact hbt)
                        rw [hyes] at HR2
                        have HBT := Lib.hid hbt
                        clear hbt hyes
                        have hsp : suppD ste.1 r i v = suppD alle r i v := by rw [HRA.out.eq, suppD_congr (padD_get alle)]
                        have HSP := Lib.hid (refSupp_any r HR0.out alle (by rw [hal]) (by omega) HRA.out.lt i hit (v : Int) _ _ _ w3 (B := w3.heap.size) ((HRR.out.via HLO.out HRA.out.low hB).mono (by have := HRA.out.low.size; omega)) HRA.out.us (Nat.le_refl _))
                        unfold ruleV at HSP
                        have r0 : w3.cell? ⟨wo.heap.size, 0, none⟩ = some (.int .i64 r.kind) := by rw [cell_of_row _ _ _ _ _ _ HRK.out]; rfl
                        have r1 : w3.cell? ⟨wo.heap.size, 1, none⟩ = some (.slice (some ⟨vb, vo, none⟩) r.vars.length vc) := by rw [cell_of_row _ _ _ _ _ _ HRK.out]; rfl
                        have r2 : w3.cell? ⟨wo.heap.size, 2, none⟩ = some (.slice na r.nums.length nc) := by rw [cell_of_row _ _ _ _ _ _ HRK.out]; rfl
                        have r3 : w3.cell? ⟨wo.heap.size, 3, none⟩ = some (.int .i64 r.n) := by rw [cell_of_row _ _ _ _ _ _ HRK.out]; rfl
                        have y3 : wo.heap.size < w3.heap.size := (Array.getElem?_eq_some_iff.1 HRK.out).1
                        go_wp2_with fail
                        refine (HG1.out).mono ?_
                        rintro e1 w4 ⟨rfl, hww⟩
                        rw [hww]; clear hww w4 HG1
                        go_wp2_with fail
                        refine (HSP.out).mono ?_
                        rintro e1 w4 ⟨rfl, hb4⟩
                        have HRA4 := Lib.hid (HRA.out.below hb4); have HRK4 := Lib.hid (heap_later HRK.out hb4 y3)
                        have s4 : w4.cell? ⟨ga, x, none⟩ = some (.int .u64 (nget alle x : Nat)) := (hb4.cell (p := ⟨ga, x, none⟩) zg).trans HSB.out
                        have z4 : ga < w4.heap.size := by have := hb4.size; omega
                        have y4 : wo.heap.size < w4.heap.size := by have := hb4.size; omega
                        clear hb4 HSP r0 r1 r2 r3 s0 HSB
                        cases hsb : suppD alle r i (v : Int)
                        case true =>
                          have hkp : cutV p rs j i ste v = ste := cut_keep (by rw [← HRD.out, hsp]; exact hsb)
                          rw [hkp] at HR2
                          clear hsb hsp hkp
                          go_wp2
                          go_roundw
                          case rel => exact ⟨v + 1, ste, alle, fse, ch, by omega, by go_num, rfl, HRA4.out, HR2.out, HNZ.out, HCH.out, HRK4.out⟩
                          case measure => simp [intOf]; omega
                        case false =>
                          have HSF : Hid (suppD ste.1 (drget p.rules j) i v = false) := Lib.hid (by rw [← HRD.out, hsp]; exact hsb)
                          clear hsb hsp HRA HRK
                          have hfew := HRA4.out.few
                          obtain ⟨fa, fc, rfl⟩ : ∃ a c, u7 = .slice a fse.length c := by obtain ⟨cs, hc, _⟩ := HRA4.out.own; exact own_form hc
                          have HMEM : Hid ((x : Int) ∈ (drget p.rules j).vars) := Lib.hid (by
                            have h1 := HXE.out
                            rw [← HRD.out] at h1 ⊢
                            unfold iget at h1
                            rw [List.getElem?_eq_getElem hit] at h1
                            rw [← show r.vars[i] = (x : Int) from h1]; exact List.getElem_mem hit)
                          have hn5 := Below.new1 w4 (.cells #[.int .i64 x, .int .i64 v, .int .i64 j, .slice none 0 0] 73)
                          have HN5 := Lib.hid hn5; have HK5 := Lib.hid (heap_new0 w4 (.cells #[.int .i64 x, .int .i64 v, .int .i64 j, .slice none 0 0] 73))
                          have HRK5 := Lib.hid (heap_later HRK4.out hn5 y4)
                          have HRA5 := Lib.hid (HRA4.out.below hn5)
                          clear hn5
                          cases rs
                          case false =>
                            obtain ⟨yl, hyl⟩ : ∃ yl : List Int, yl = [] := ⟨_, rfl⟩
                            have HB7 := HN5; have HK7 := HK5; have HR7 := HRK5
                            have HY7 : Hid ((w4.alloc (.cells #[.int .i64 x, .int .i64 v, .int .i64 j, .slice none 0 0] 73)).ownsRow (w.heap.size + 1) 3 1 (.slice none 0 0) yl.length (intsV yl)) := Lib.hid (by rw [hyl]; exact World.ownsRow_nil _ _ _ _)
                            have HYE : Hid (yl = if false = true then (reasonD p fse ⟨x, v, j, []⟩).why else []) := Lib.hid (by rw [hyl]; rfl)
                            clear hyl HN5 HK5 HRK5 HRA5
                            have hra7 := HRA4.out.below HB7.out
                            obtain ⟨cs, hc0, hc2⟩ := hra7.own
                            obtain ⟨i56, hi56, hz0, hz1, hz2⟩ := info_parts infoC
                            have hck := CK.below (Below.new1 (w4.alloc (.cells #[.int .i64 x, .int .i64 v, .int .i64 j, .slice none 0 0] 73)) (.cells #[.int .i64 x, .int .i64 v, .int .i64 j, .slice none 0 0] 73))
                            have hc1 := own_ck hc0 hck
                            have hnw : ((w4.alloc (.cells #[.int .i64 x, .int .i64 v, .int .i64 j, .slice none 0 0] 73)).alloc (.cells #[.int .i64 x, .int .i64 v, .int .i64 j, .slice none 0 0] 73)).heap[(w4.heap.size + 1)]? = some (.cells #[.int .i64 x, .int .i64 v, .int .i64 j, .slice none 0 0] 73 (0, 0)) := by
                              have h1 := heap_new0 (w4.alloc (.cells #[.int .i64 x, .int .i64 v, .int .i64 j, .slice none 0 0] 73)) (.cells #[.int .i64 x, .int .i64 v, .int .i64 j, .slice none 0 0] 73)
                              have h2 : (w4.alloc (.cells #[.int .i64 x, .int .i64 v, .int .i64 j, .slice none 0 0] 73)).heap.size = (w4.heap.size + 1) := by first | rfl | simp [World.setCell]
                              rwa [h2] at h1
                            have hsz7 := HB7.out.size
                            have hlo7 := hra7.low.size
                            have z7 : w4.heap.size < (w4.alloc (.cells #[.int .i64 x, .int .i64 v, .int .i64 j, .slice none 0 0] 73)).heap.size := (Array.getElem?_eq_some_iff.1 HK7.out).1
                            go_wp2_with (at_builtin; refine wpList_append_own _ rfl _ _ 28 rfl (w.heap.size + 1) 73 i56 _ 4 48 Tryz.underlying28 hi56 hz0 hz1 hz2 rfl (by decide) _ _ _ rfl hc1 ⟨(w4.heap.size + 1), 0, none⟩ 1 1 [.int .i64 x, .int .i64 v, .int .i64 j, .slice none 0 0] rfl rfl ?c1 ?c2 ?c3 ?c4 ?c5 ?_)
                            case c1 =>
                              intro q u hq
                              rw [Addr.add_lit, Nat.zero_add, cell_of_row _ _ _ _ _ _ hnw, List.getElem?_toArray]; exact hq
                            case c2 =>
                              intro u hu
                              simp only [List.mem_cons, List.not_mem_nil, or_false] at hu
                              rcases hu with rfl | rfl | rfl | rfl <;> rfl
                            case c3 => unfold maxLen; omega
                            case c4 => omega
                            case c5 => simp; omega
                            intro v' wg hown8 hgrow8 _
                            have hb1 := Below.new1 (w4.alloc (.cells #[.int .i64 x, .int .i64 v, .int .i64 j, .slice none 0 0] 73)) (.cells #[.int .i64 x, .int .i64 v, .int .i64 j, .slice none 0 0] 73)
                            have hr1 := heap_later HR7.out hb1 (Array.getElem?_eq_some_iff.1 HR7.out).1
                            have hp1 := heap_later hra7.box hb1 (Array.getElem?_eq_some_iff.1 hra7.box).1
                            have hr8 := (hgrow8.block wo.heap.size (Array.getElem?_eq_some_iff.1 hr1).1 (fun hh => own_apart hc1 hr1 (by decide) _ hh.symm rfl)).trans hr1
                            have hp8 := (hgrow8.block w.heap.size (Array.getElem?_eq_some_iff.1 hp1).1 (fun hh => own_apart hc1 hp1 (by decide) _ hh.symm rfl)).trans hp1
                            have hf8 : COwn wg (w.heap.size + 1) v' (fse ++ [⟨x, v, j, yl⟩]) := COwn.appended (c := ⟨x, v, j, yl⟩) hc1 hgrow8 (fun i hi => by
                              obtain ⟨e1, e2, e3, yv, e5, e6⟩ := hc2 i hi
                              exact ⟨e1, e2, e3, yv, e5, own_ck e6 hck⟩) (own_ck HY7.out hck) hown8
                            have ha1 := own_ck hra7.alls hck
                            have ha8 := ha1.kept hgrow8 (own_own ha1 hc1 (by decide))
                            have hl8 := (hra7.low.alloc hra7.low.size (.cells #[.int .i64 x, .int .i64 v, .int .i64 j, .slice none 0 0] 73)).grown hgrow8 (by simp; omega) (fun q hq => by have := (hc1.lt q hq).1; omega)
                            rw [hal] at ha8
                            obtain ⟨cura, hgac⟩ : ∃ cur, wg.heap[ga]? = some (.cells cur 56 (0, 0)) := by obtain ⟨cur, h1, _⟩ := own_block ha8; exact ⟨cur, h1⟩
                            have HR8 := Lib.hid hr8; have HP8 := Lib.hid hp8; have HF8 := Lib.hid hf8; have HA8 := Lib.hid ha8; have HL8 := Lib.hid hl8; have HGA := Lib.hid hgac
                            obtain ⟨g5, cp, rfl⟩ := Slice.own_succ hown8
                            have s8 : wg.cell? ⟨ga, x, none⟩ = some (.int .u64 (nget alle x : Nat)) := by rw [ha8.cellAt x (by omega)]; exact natsV_get _ _ hxa
                            have z8 : ga < wg.heap.size := (Array.getElem?_eq_some_iff.1 hgac).1
                            have f8 : wg.frozen? ⟨ga, x, none⟩ = false := by simp [World.frozen?, hgac]
                            have hu : U64 (nget alle x) := Nat.lt_trans (HRA4.out.lt x) (by decide)
                            have HWO := Lib.hid (without_any (nget alle x) v wg hu (by omega))
                            clear hnw hown8 hgrow8 hb1 hr1 hp1 hr8 hp8 hf8 ha1 ha8 hl8 hc0 hc1 hc2 hck cs hi56 hz0 hz1 hz2 HB7 HK7 HR7 HY7 hra7 z7 hgac hu
                            go_wp2_with fail
                            refine HWO.out.mono ?_
                            rintro e1 w9 ⟨rfl, hww⟩
                            rw [hww]
                            clear hww w9 HWO
                            have nrg : wo.heap.size ≠ ga := fun h => by have h1 := HR8.out; rw [h, HGA.out] at h1; simp only [Option.some.injEq, Obj.cells.injEq] at h1; exact absurd h1.2.1 (by decide)
                            have nwg : w.heap.size ≠ ga := by omega
                            have hal9 := own_put (i := x) (x := sDiff (nget alle x) (bitN v)) HA8.out
                            rw [← hal] at hal9
                            have hst := HRA4.out.step (i := i) (n := j) (y := yl) (lv' := .slice (some ⟨g5, 0, none⟩) (fse.length + 1) cp) (W' := wg.setCell ⟨ga, x, none⟩ (.int .u64 (sDiff (nget alle x) (bitN v) : Nat))) HXE.out hxa hvt HBT.out HSF.out HYE.out (HF8.out.kt (KT.set HGA.out (by decide) (by decide) _)) (by rw [hal] at hal9 ⊢; exact hal9) ((Below.heap_setCell _ _ _ _ nwg).trans HP8.out) (HL8.out.setCell (p := ⟨ga, x, none⟩) (by show w.heap.size ≤ ga; omega) _)
                            have HST := Lib.hid hst.1; have HDN := Lib.hid (HCH.out.down hst.2); have HR9 := Lib.hid ((Below.heap_setCell wg ⟨ga, x, none⟩ (.int .u64 (sDiff (nget alle x) (bitN v) : Nat)) _ nrg).trans HR8.out)
                            obtain ⟨dn, hdn⟩ : ∃ dn, dn = sDiff (nget alle x) (bitN v) := ⟨_, rfl⟩
                            have HZD : Hid (nget (cutV p false j i ste v).1 x = dn) := Lib.hid (by rw [hst.1.get, nget_set, if_pos ⟨rfl, hxa⟩, hdn])
                            rw [← hdn] at HST HR9 ⊢
                            have HDE := Lib.hid hdn
                            clear hst hal9 nrg nwg hdn
                            by_cases hz : dn = 0
                            · have hsw : cutV p false j i ste v = sto := by rw [← HR2.out]; exact (rcut_zero HXE.out _ (by rw [HZD.out]; exact hz)).symm
                              have hR2 : cutV p false j i ste v = R := by
                                rw [hsw]
                                exact stop_here (by rw [HRD.out]) hit hlt HC.out.2.1 HXE.out HSO.out (by rw [← hsw, HZD.out]; exact hz) HRI.out HRJ.out HC.out.1
                              have HFIN := Lib.hid (HST.out.post (hR2.trans HR.out))
                              subst hz
                              have c8 : (wg.setCell ⟨ga, x, none⟩ (.int .u64 ((0 : Nat) : Int))).cell? ⟨ga, x, none⟩ = some (.int .u64 ((0 : Nat) : Int)) := World.cell?_setCell_same _ _ _ s8
                              clear hsw hR2
                              go_wp2
                              go_ret2
                              exact HFIN.out
                            · have f1 : (((dn : Nat) : Int) == 0) = false := by rw [beq_eq_false_iff_ne]; omega
                              have c8 : (wg.setCell ⟨ga, x, none⟩ (.int .u64 (dn : Nat))).cell? ⟨ga, x, none⟩ = some (.int .u64 (dn : Nat)) := World.cell?_setCell_same _ _ _ s8
                              have HNZ2 := Lib.hid (HNZ.out.set x hz)
                              clear hz
                              go_wp2
                              go_roundw
                              case rel => exact ⟨v + 1, cutV p false j i ste v, alle.set x dn, fse ++ [⟨x, v, j, yl⟩], true, by omega, by go_num, rfl, HST.out, HR2.out, HNZ2.out, HDN.out, HR9.out⟩
                              case measure => simp [intOf]; omega
                          case true =>
                            have c0 : w4.cell? ⟨w.heap.size, 0, none⟩ = some (.slice da p.doms.length dc) := by rw [cell_of_row _ _ _ _ _ _ HRA4.out.box]; rfl
                            have c1 : w4.cell? ⟨w.heap.size, 1, none⟩ = some (.slice (some ⟨rb, ro, none⟩) p.rules.length rc) := by rw [cell_of_row _ _ _ _ _ _ HRA4.out.box]; rfl
                            have xw4 : w.heap.size < w4.heap.size := (Array.getElem?_eq_some_iff.1 HRA4.out.box).1
                            have HWY := Lib.hid (refWhy_any p HPO.out fse HRA5.out.fit (by omega) x j (v : Int) HMEM.out hlt none 0 0 _ _ _ (w4.alloc (.cells #[.int .i64 x, .int .i64 v, .int .i64 j, .slice none 0 0] 73)) (B := (w4.alloc (.cells #[.int .i64 x, .int .i64 v, .int .i64 j, .slice none 0 0] 73)).heap.size) ((HDV.out.below HRA5.out.low hB).mono (Nat.le_trans hB HRA5.out.low.size)) ((HRV.out.below HRA5.out.low hB).mono (Nat.le_trans hB HRA5.out.low.size)) HRA5.out.cts (Nat.le_refl _))
                            clear HRA5
                            go_wp2_with fail
                            refine HWY.out.mono ?_
                            rintro e1 w8 ⟨yv, rfl, hyo, hb8⟩
                            clear c0 c1 xw4 HWY
                            obtain ⟨yl, hyl⟩ : ∃ yl : List Int, yl = (reasonD p fse ⟨x, v, j, []⟩).why := ⟨_, rfl⟩
                            rw [← hyl] at hyo
                            have HYE : Hid (yl = if true = true then (reasonD p fse ⟨x, v, j, []⟩).why else []) := Lib.hid hyl
                            obtain ⟨ya, yc, rfl⟩ := own_form hyo
                            have HB8 := Lib.hid (HN5.out.trans (hb8.mono HN5.out.size)); have HK8 := Lib.hid (heap_later HK5.out hb8 (by simp)); have HR8 := Lib.hid (heap_later HRK5.out hb8 (by simp; omega))
                            have x8 : w4.heap.size < w8.heap.size := (Array.getElem?_eq_some_iff.1 HK8.out).1
                            have d3 : w8.cell? ⟨w4.heap.size, 3, none⟩ = some (.slice none 0 0) := by rw [cell_of_row _ _ _ _ _ _ HK8.out]; rfl
                            have d0 : w8.cell? ⟨w4.heap.size, 0, none⟩ = some (.int .i64 x) := by rw [cell_of_row _ _ _ _ _ _ HK8.out]; rfl
                            have d1 : w8.cell? ⟨w4.heap.size, 1, none⟩ = some (.int .i64 v) := by rw [cell_of_row _ _ _ _ _ _ HK8.out]; rfl
                            have d2 : w8.cell? ⟨w4.heap.size, 2, none⟩ = some (.int .i64 j) := by rw [cell_of_row _ _ _ _ _ _ HK8.out]; rfl
                            have f4 : w8.frozen? ⟨w4.heap.size, 3, none⟩ = false := by simp [World.frozen?, HK8.out]
                            have nr4 : wo.heap.size ≠ w4.heap.size := by omega
                            have hb7 := HB8.out.setCell (p := ⟨w4.heap.size, 3, none⟩) (Nat.le_refl _) (.slice ya yl.length yc)
                            have hk7 : (w8.setCell ⟨w4.heap.size, 3, none⟩ (.slice ya yl.length yc)).heap[w4.heap.size]? = some (.cells #[.int .i64 x, .int .i64 v, .int .i64 j, .slice ya yl.length yc] 73 (0, 0)) := set_row HK8.out
                            have hr7 := (Below.heap_setCell w8 ⟨w4.heap.size, 3, none⟩ (.slice ya yl.length yc) _ nr4).trans HR8.out
                            have hy7 : (w8.setCell ⟨w4.heap.size, 3, none⟩ (.slice ya yl.length yc)).ownsRow (w.heap.size + 1) 3 1 (.slice ya yl.length yc) yl.length (intsV yl) := own_setF (own_mono hyo (by have := HRA4.out.low.size; simp; omega)) HK8.out (by decide)
                            clear HB8 HK8 HR8 nr4 hyo hb8 hyl HN5 HK5 HRK5
                            have HB7 := Lib.hid hb7; have HK7 := Lib.hid hk7; have HR7 := Lib.hid hr7; have HY7 := Lib.hid hy7
                            clear hb7 hk7 hr7 hy7
                            have hra7 := HRA4.out.below HB7.out
                            obtain ⟨cs, hc0, hc2⟩ := hra7.own
                            obtain ⟨i56, hi56, hz0, hz1, hz2⟩ := info_parts infoC
                            have hck := CK.below (Below.new1 (w8.setCell ⟨w4.heap.size, 3, none⟩ (.slice ya yl.length yc)) (.cells #[.int .i64 x, .int .i64 v, .int .i64 j, .slice ya yl.length yc] 73))
                            have hc1 := own_ck hc0 hck
                            have hnw : ((w8.setCell ⟨w4.heap.size, 3, none⟩ (.slice ya yl.length yc)).alloc (.cells #[.int .i64 x, .int .i64 v, .int .i64 j, .slice ya yl.length yc] 73)).heap[w8.heap.size]? = some (.cells #[.int .i64 x, .int .i64 v, .int .i64 j, .slice ya yl.length yc] 73 (0, 0)) := by
                              have h1 := heap_new0 (w8.setCell ⟨w4.heap.size, 3, none⟩ (.slice ya yl.length yc)) (.cells #[.int .i64 x, .int .i64 v, .int .i64 j, .slice ya yl.length yc] 73)
                              have h2 : (w8.setCell ⟨w4.heap.size, 3, none⟩ (.slice ya yl.length yc)).heap.size = w8.heap.size := by first | rfl | simp [World.setCell]
                              rwa [h2] at h1
                            have hsz7 := HB7.out.size
                            have hlo7 := hra7.low.size
                            have z7 : w4.heap.size < (w8.setCell ⟨w4.heap.size, 3, none⟩ (.slice ya yl.length yc)).heap.size := (Array.getElem?_eq_some_iff.1 HK7.out).1
                            go_wp2_with (at_builtin; refine wpList_append_own _ rfl _ _ 28 rfl (w.heap.size + 1) 73 i56 _ 4 48 Tryz.underlying28 hi56 hz0 hz1 hz2 rfl (by decide) _ _ _ rfl hc1 ⟨w8.heap.size, 0, none⟩ 1 1 [.int .i64 x, .int .i64 v, .int .i64 j, .slice ya yl.length yc] rfl rfl ?c1 ?c2 ?c3 ?c4 ?c5 ?_)
                            case c1 =>
                              intro q u hq
                              rw [Addr.add_lit, Nat.zero_add, cell_of_row _ _ _ _ _ _ hnw, List.getElem?_toArray]; exact hq
                            case c2 =>
                              intro u hu
                              simp only [List.mem_cons, List.not_mem_nil, or_false] at hu
                              rcases hu with rfl | rfl | rfl | rfl <;> rfl
                            case c3 => unfold maxLen; omega
                            case c4 => omega
                            case c5 => simp; omega
                            intro v' wg hown8 hgrow8 _
                            have hb1 := Below.new1 (w8.setCell ⟨w4.heap.size, 3, none⟩ (.slice ya yl.length yc)) (.cells #[.int .i64 x, .int .i64 v, .int .i64 j, .slice ya yl.length yc] 73)
                            have hr1 := heap_later HR7.out hb1 (Array.getElem?_eq_some_iff.1 HR7.out).1
                            have hp1 := heap_later hra7.box hb1 (Array.getElem?_eq_some_iff.1 hra7.box).1
                            have hr8 := (hgrow8.block wo.heap.size (Array.getElem?_eq_some_iff.1 hr1).1 (fun hh => own_apart hc1 hr1 (by decide) _ hh.symm rfl)).trans hr1
                            have hp8 := (hgrow8.block w.heap.size (Array.getElem?_eq_some_iff.1 hp1).1 (fun hh => own_apart hc1 hp1 (by decide) _ hh.symm rfl)).trans hp1
                            have hf8 : COwn wg (w.heap.size + 1) v' (fse ++ [⟨x, v, j, yl⟩]) := COwn.appended (c := ⟨x, v, j, yl⟩) hc1 hgrow8 (fun i hi => by
                              obtain ⟨e1, e2, e3, yv, e5, e6⟩ := hc2 i hi
                              exact ⟨e1, e2, e3, yv, e5, own_ck e6 hck⟩) (own_ck HY7.out hck) hown8
                            have ha1 := own_ck hra7.alls hck
                            have ha8 := ha1.kept hgrow8 (own_own ha1 hc1 (by decide))
                            have hl8 := (hra7.low.alloc hra7.low.size (.cells #[.int .i64 x, .int .i64 v, .int .i64 j, .slice ya yl.length yc] 73)).grown hgrow8 (by simp; omega) (fun q hq => by have := (hc1.lt q hq).1; omega)
                            rw [hal] at ha8
                            obtain ⟨cura, hgac⟩ : ∃ cur, wg.heap[ga]? = some (.cells cur 56 (0, 0)) := by obtain ⟨cur, h1, _⟩ := own_block ha8; exact ⟨cur, h1⟩
                            have HR8 := Lib.hid hr8; have HP8 := Lib.hid hp8; have HF8 := Lib.hid hf8; have HA8 := Lib.hid ha8; have HL8 := Lib.hid hl8; have HGA := Lib.hid hgac
                            obtain ⟨g5, cp, rfl⟩ := Slice.own_succ hown8
                            have s8 : wg.cell? ⟨ga, x, none⟩ = some (.int .u64 (nget alle x : Nat)) := by rw [ha8.cellAt x (by omega)]; exact natsV_get _ _ hxa
                            have z8 : ga < wg.heap.size := (Array.getElem?_eq_some_iff.1 hgac).1
                            have f8 : wg.frozen? ⟨ga, x, none⟩ = false := by simp [World.frozen?, hgac]
                            have hu : U64 (nget alle x) := Nat.lt_trans (HRA4.out.lt x) (by decide)
                            have HWO := Lib.hid (without_any (nget alle x) v wg hu (by omega))
                            clear hnw hown8 hgrow8 hb1 hr1 hp1 hr8 hp8 hf8 ha1 ha8 hl8 hc0 hc1 hc2 hck cs hi56 hz0 hz1 hz2 HB7 HK7 HR7 HY7 hra7 z7 hgac hu
                            go_wp2_with fail
                            refine HWO.out.mono ?_
                            rintro e1 w9 ⟨rfl, hww⟩
                            rw [hww]
                            clear hww w9 HWO
                            have nrg : wo.heap.size ≠ ga := fun h => by have h1 := HR8.out; rw [h, HGA.out] at h1; simp only [Option.some.injEq, Obj.cells.injEq] at h1; exact absurd h1.2.1 (by decide)
                            have nwg : w.heap.size ≠ ga := by omega
                            have hal9 := own_put (i := x) (x := sDiff (nget alle x) (bitN v)) HA8.out
                            rw [← hal] at hal9
                            have hst := HRA4.out.step (i := i) (n := j) (y := yl) (lv' := .slice (some ⟨g5, 0, none⟩) (fse.length + 1) cp) (W' := wg.setCell ⟨ga, x, none⟩ (.int .u64 (sDiff (nget alle x) (bitN v) : Nat))) HXE.out hxa hvt HBT.out HSF.out HYE.out (HF8.out.kt (KT.set HGA.out (by decide) (by decide) _)) (by rw [hal] at hal9 ⊢; exact hal9) ((Below.heap_setCell _ _ _ _ nwg).trans HP8.out) (HL8.out.setCell (p := ⟨ga, x, none⟩) (by show w.heap.size ≤ ga; omega) _)
                            have HST := Lib.hid hst.1; have HDN := Lib.hid (HCH.out.down hst.2); have HR9 := Lib.hid ((Below.heap_setCell wg ⟨ga, x, none⟩ (.int .u64 (sDiff (nget alle x) (bitN v) : Nat)) _ nrg).trans HR8.out)
                            obtain ⟨dn, hdn⟩ : ∃ dn, dn = sDiff (nget alle x) (bitN v) := ⟨_, rfl⟩
                            have HZD : Hid (nget (cutV p true j i ste v).1 x = dn) := Lib.hid (by rw [hst.1.get, nget_set, if_pos ⟨rfl, hxa⟩, hdn])
                            rw [← hdn] at HST HR9 ⊢
                            have HDE := Lib.hid hdn
                            clear hst hal9 nrg nwg hdn
                            by_cases hz : dn = 0
                            · have hsw : cutV p true j i ste v = sto := by rw [← HR2.out]; exact (rcut_zero HXE.out _ (by rw [HZD.out]; exact hz)).symm
                              have hR2 : cutV p true j i ste v = R := by
                                rw [hsw]
                                exact stop_here (by rw [HRD.out]) hit hlt HC.out.2.1 HXE.out HSO.out (by rw [← hsw, HZD.out]; exact hz) HRI.out HRJ.out HC.out.1
                              have HFIN := Lib.hid (HST.out.post (hR2.trans HR.out))
                              subst hz
                              have c8 : (wg.setCell ⟨ga, x, none⟩ (.int .u64 ((0 : Nat) : Int))).cell? ⟨ga, x, none⟩ = some (.int .u64 ((0 : Nat) : Int)) := World.cell?_setCell_same _ _ _ s8
                              clear hsw hR2
                              go_wp2
                              go_ret2
                              exact HFIN.out
                            · have f1 : (((dn : Nat) : Int) == 0) = false := by rw [beq_eq_false_iff_ne]; omega
                              have c8 : (wg.setCell ⟨ga, x, none⟩ (.int .u64 (dn : Nat))).cell? ⟨ga, x, none⟩ = some (.int .u64 (dn : Nat)) := World.cell?_setCell_same _ _ _ s8
                              have HNZ2 := Lib.hid (HNZ.out.set x hz)
                              clear hz
                              go_wp2
                              go_roundw
                              case rel => exact ⟨v + 1, cutV p true j i ste v, alle.set x dn, fse ++ [⟨x, v, j, yl⟩], true, by omega, by go_num, rfl, HST.out, HR2.out, HNZ2.out, HDN.out, HR9.out⟩
                              case measure => simp [intOf]; omega
                    · have hv2 : v = 16 := by omega
                      subst hv2
                      have hend : ste = sto := HRE.out
                      have HE := Lib.hid hend
                      clear hend hrae hrbk
                      have hz : nget sto.1 x ≠ 0 := by rw [← HE.out, HRA.out.get]; exact HNZ.out x hxn
                      have hpl : placesD p rs j (List.range' (i + 1) (r.vars.length - (i + 1))) sto = placesD p rs j (List.range r.vars.length) stj := by
                        rw [← HRI.out, range_at hit, placesD_cons, ← HSO.out, HXE.out, Int.toNat_natCast, if_neg hz]
                      have HPL := Lib.hid hpl
                      clear hpl hz
                      go_wp2
                      go_roundw
                      case rel => exact ⟨i + 1, ste, alle, fse, ch, by omega, by go_num, rfl, HRA.out, by rw [HE.out]; exact HPL.out, HCH.out, HNZ.out, HRK.out⟩
                      case measure => simp [intOf]; omega
                · have hi2 : i = r.vars.length := by omega
                  subst hi2
                  have HRN := Lib.hid (next_rule (by rw [HRD.out]) hlt HRI.out HRJ.out)
                  clear hrai hlow
                  go_wp2
                  go_roundw
                  case rel => exact ⟨j + 1, sti, alli, fsi, ch, by omega, by go_num, rfl, HRA.out, HRN.out, HCH.out, HNZ.out⟩
                  case measure => simp [intOf]; omega
            · have hj2 : j = p.rules.length := by omega
              subst hj2
              have HRD := Lib.hid (next_round HC.out.2.1 HRJ.out HC.out.1)
              clear hraj hrj hch hnz
              go_wp2
              go_roundg (gk - 1)
              case measure => have := HC.out.2.1; omega
              case rel =>
                refine ⟨stj, allj, fsj, ch, rfl, HRA.out, fun h => ?_, fun h => ?_⟩
                · have hl : totalD stj.1 < totalD st.1 := by have := HCH.out.flag; rw [h] at this; simpa using this.symm
                  have hrun := HRD.out
                  rw [if_neg (fun he => by rw [he] at hl; omega)] at hrun
                  exact ⟨hrun, by have := HC.out.2.1; show totalD stj.1 < gk - 1; omega, HNZ.out⟩
                · have hl : ¬ totalD stj.1 < totalD st.1 := by have := HCH.out.flag; rw [h] at this; simpa using this.symm
                  have hrun := HRD.out
                  rw [if_pos (HCH.out.same hl)] at hrun
                  exact hrun
set_option maxRecDepth 100000 in
set_option maxHeartbeats 1000000 in
theorem refPropagate_any (p : Dp) (hpo : probD p = true) (dv rv : Value) (w : World) {B : Nat} (hdv : Us w B dv p.doms) (hrv : DRls w B rv p.rules) (hB : B ≤ w.heap.size) :
    Calls Tryz.prog 11 #[.agg #[dv, rv]] w (RunPost p true w) := by
  have HDV := Lib.hid hdv; have HRV := Lib.hid hrv; have HPO := Lib.hid hpo
  obtain ⟨da, dc, rfl⟩ := hdv.slice
  obtain ⟨ra, rc, rfl⟩ := hrv.slice
  clear hdv hrv hpo
  have HB0 := Lib.hid (Below.new1 w (.cells #[.slice da p.doms.length dc, .slice ra p.rules.length rc] 25))
  go_enter Tryz.func11, Tryz.ntmps11
  go_wp2_with fail
  refine (refRun_any p HPO.out true _ _ _ (HDV.out.below HB0.out hB) (HRV.out.below HB0.out hB) (by simp; omega)).mono ?_
  rintro e w2 ⟨av, lv, all, fs, rfl, h1, h2, h3, h4, h5, h6⟩
  have HP : Hid (RunPost p true w (.returned (.tuple #[av, lv])) w2) := Lib.hid ⟨av, lv, all, fs, rfl, h1, h2, h3, own_mono h4 (by simp), h5.mono (by simp), HB0.out.trans (h6.mono (by simp))⟩
  clear h1 h2 h3 h4 h5 h6
  go_wp2
  go_ret2
  exact HP.out
end Go.Proofs.YtdmmegmkdhinjaaGreatDoor
