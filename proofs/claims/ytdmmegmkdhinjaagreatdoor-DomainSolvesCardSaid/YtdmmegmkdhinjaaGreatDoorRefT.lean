/- The reference of Domain: a node of the search, Solve. -/
import Derived.Test.YtdmmegmkdhinjaaGreatDoorPlainW
import Derived.Test.YtdmmegmkdhinjaaGreatDoorRefS
import Derived.Test.YtdmmegmkdhinjaaGreatDoorRefP
import Derived.Test.YtdmmegmkdhinjaaGreatDoorBI
namespace Go.Proofs.YtdmmegmkdhinjaaGreatDoor
open Go Go.RowKit
attribute [local go_sem] cell_grow u64_sAnd u64_sOr u64_sDiff sDiff_all zeqI zneI sAnd_bit_zero sAnd_bit_zeroN sAnd_bit_nonzero

def noneQ : Nat → Prop := fun _ => False
theorem LOwn.setF {w : World} {base b o : Nat} {v x : Value} {ss : List (List Int)} {c : Array Value} {t : TypeId} (h : LOwn w base v ss) (hb : w.heap[b]? = some (.cells c t (0, 0))) (h1 : t ≠ 39) (h2 : t ≠ 3) : LOwn (w.setCell ⟨b, o, none⟩ x) base v ss :=
  h.typed fun k c' t' ht e => (Below.heap_setCell _ _ _ _ (fun hh => by
    have hh' : k = b := hh
    subst hh'
    rw [hb] at e
    cases e
    rcases ht with rfl | rfl
    · exact h1 rfl
    · exact h2 rfl)).trans e
/-- What a node's own blocks hold. -/
structure NdAt (dv rv sv : Value) (s : Sq) (base : Nat) (w W : World) : Prop where
  srch : W.heap[w.heap.size]? = some (.cells #[sv, .int .i64 (s.nodes : Nat), .bool s.opn] 51 (0, 0))
  prob : W.heap[w.heap.size + 1]? = some (.cells #[dv, rv] 25 (0, 0))
  res : W.heap[w.heap.size + 2]? = some (.cells #[.slice none 0 0, .int .i64 0, .bool false] 51 (0, 0))
  own : LOwn W base sv s.got
  kept : KeptT 39 noneQ base w W
def NodeQ (s : Sq) (base : Nat) (w : World) (e : Ending) (w' : World) : Prop := ∃ sv, e = .returned (.agg #[sv, .int .i64 (s.nodes : Nat), .bool s.opn]) ∧ LOwn w' base sv s.got ∧ KeptT 39 noneQ base w w'
section
variable {dv rv sv sv' : Value} {s s' : Sq} {base : Nat} {w W W' : World}
theorem NdAt.below (h : NdAt dv rv sv s base w W) (hb : Below W.heap.size W W') : NdAt dv rv sv s base w W' :=
  ⟨heap_later h.srch hb (Array.getElem?_eq_some_iff.1 h.srch).1, heap_later h.prob hb (Array.getElem?_eq_some_iff.1 h.prob).1, heap_later h.res hb (Array.getElem?_eq_some_iff.1 h.res).1, h.own.ck (CK.below hb), h.kept.below hb⟩
theorem NdAt.kpt (h : NdAt dv rv sv s base w W) (hk : KeptT 39 noneQ base W W') : KeptT 39 noneQ base w W' ∧
    W'.heap[w.heap.size]? = some (.cells #[sv, .int .i64 (s.nodes : Nat), .bool s.opn] 51 (0, 0)) ∧ W'.heap[w.heap.size + 1]? = some (.cells #[dv, rv] 25 (0, 0)) ∧ W'.heap[w.heap.size + 2]? = some (.cells #[.slice none 0 0, .int .i64 0, .bool false] 51 (0, 0)) :=
  ⟨h.kept.trans hk, hk.same _ _ h.srch (fun hh => hh) (.inr (nT (by decide))), hk.same _ _ h.prob (fun hh => hh) (.inr (nT (by decide))), hk.same _ _ h.res (fun hh => hh) (.inr (nT (by decide)))⟩
theorem NdAt.setS (h : NdAt dv rv sv s base w W) (o : Nat) (x : Value) : (W.setCell ⟨w.heap.size, o, none⟩ x).heap[w.heap.size]? = some (.cells ((#[sv, .int .i64 (s.nodes : Nat), .bool s.opn] : Array Value).setIfInBounds o x) 51 (0, 0)) ∧
    (W.setCell ⟨w.heap.size, o, none⟩ x).heap[w.heap.size + 1]? = some (.cells #[dv, rv] 25 (0, 0)) ∧ (W.setCell ⟨w.heap.size, o, none⟩ x).heap[w.heap.size + 2]? = some (.cells #[.slice none 0 0, .int .i64 0, .bool false] 51 (0, 0)) ∧
    LOwn (W.setCell ⟨w.heap.size, o, none⟩ x) base sv s.got ∧ KeptT 39 noneQ base w (W.setCell ⟨w.heap.size, o, none⟩ x) :=
  ⟨set_row h.srch, (Below.heap_setCell _ _ _ _ (by show w.heap.size + 1 ≠ w.heap.size; omega)).trans h.prob, (Below.heap_setCell _ _ _ _ (by show w.heap.size + 2 ≠ w.heap.size; omega)).trans h.res, h.own.setF h.srch (by decide) (by decide), h.kept.setNew (p := ⟨w.heap.size, o, none⟩) (Nat.le_refl _) _⟩
theorem nd_ret {a b c x y z : Value} {ss : List (List Int)} (hr : W.heap[w.heap.size + 2]? = some (.cells #[a, b, c] 51 (0, 0))) (ho : LOwn W base x ss) (hk : KeptT 39 noneQ base w W) :
    (loadVar 51 ⟨w.heap.size + 1 + 1, 0, none⟩).run Tryz.prog (((W.setCell ⟨w.heap.size + 1 + 1, 0, none⟩ x).setCell ⟨w.heap.size + 1 + 1, 1, none⟩ y).setCell ⟨w.heap.size + 1 + 1, 2, none⟩ z) = .ok (.agg #[x, y, z]) (((W.setCell ⟨w.heap.size + 1 + 1, 0, none⟩ x).setCell ⟨w.heap.size + 1 + 1, 1, none⟩ y).setCell ⟨w.heap.size + 1 + 1, 2, none⟩ z) ∧
    LOwn (((W.setCell ⟨w.heap.size + 1 + 1, 0, none⟩ x).setCell ⟨w.heap.size + 1 + 1, 1, none⟩ y).setCell ⟨w.heap.size + 1 + 1, 2, none⟩ z) base x ss ∧
    KeptT 39 noneQ base w (((W.setCell ⟨w.heap.size + 1 + 1, 0, none⟩ x).setCell ⟨w.heap.size + 1 + 1, 1, none⟩ y).setCell ⟨w.heap.size + 1 + 1, 2, none⟩ z) := by
  have j1 := set_row (o := 0) (v := x) hr
  have j2 := set_row (o := 1) (v := y) j1
  have j3 := set_row (o := 2) (v := z) j2
  have hi : (Tryz.prog.info? 51).map (·.size) = some [x, y, z].length := by kernel_rfl
  refine ⟨run_loadVar_mid _ _ 0 _ [x, y, z] _ (row_range3 j3) Tryz.underlying51 rfl hi, ((ho.setF hr (by decide) (by decide)).setF j1 (by decide) (by decide)).setF j2 (by decide) (by decide), ?_⟩
  exact ((hk.setNew (p := ⟨w.heap.size + 1 + 1, 0, none⟩) (by show w.heap.size ≤ w.heap.size + 1 + 1; omega) x).setNew (p := ⟨w.heap.size + 1 + 1, 1, none⟩) (by show w.heap.size ≤ w.heap.size + 1 + 1; omega) y).setNew (p := ⟨w.heap.size + 1 + 1, 2, none⟩) (by show w.heap.size ≤ w.heap.size + 1 + 1; omega) z
theorem nd_set3 (h : NdAt dv rv sv s base w W) (hk : KeptT 39 noneQ base W W') (ho : LOwn W' base sv' s'.got) :
    NdAt dv rv sv' s' base w (((W'.setCell ⟨w.heap.size, 0, none⟩ sv').setCell ⟨w.heap.size, 1, none⟩ (.int .i64 (s'.nodes : Nat))).setCell ⟨w.heap.size, 2, none⟩ (.bool s'.opn)) := by
  obtain ⟨k1, k2, k3, k4⟩ := h.kpt hk
  have j1 := set_row (o := 0) (v := sv') k2
  have j2 := set_row (o := 1) (v := .int .i64 (s'.nodes : Nat)) j1
  have j3 := set_row (o := 2) (v := .bool s'.opn) j2
  have n1 : w.heap.size + 1 ≠ w.heap.size := by omega
  have n2 : w.heap.size + 2 ≠ w.heap.size := by omega
  exact ⟨j3, (Below.heap_setCell _ _ _ _ n1).trans ((Below.heap_setCell _ _ _ _ n1).trans ((Below.heap_setCell _ _ _ _ n1).trans k3)), (Below.heap_setCell _ _ _ _ n2).trans ((Below.heap_setCell _ _ _ _ n2).trans ((Below.heap_setCell _ _ _ _ n2).trans k4)),
    ((ho.setF k2 (by decide) (by decide)).setF j1 (by decide) (by decide)).setF j2 (by decide) (by decide),
    ((k1.setNew (p := ⟨w.heap.size, 0, none⟩) (Nat.le_refl _) _).setNew (p := ⟨w.heap.size, 1, none⟩) (Nat.le_refl _) _).setNew (p := ⟨w.heap.size, 2, none⟩) (Nat.le_refl _) _⟩
theorem own_setT {w : World} {base b : Nat} {e : TypeId} {sz : Nat} {v x : Value} {n : Nat} {xs : List Value} {c : Array Value} {t : TypeId} {o : Nat} (h : w.ownsRow base e sz v n xs) (hb : w.heap[b]? = some (.cells c t (0, 0))) (ht : t ≠ e) : (w.setCell ⟨b, o, none⟩ x).ownsRow base e sz v n xs :=
  own_setF h hb ht
end
set_option maxRecDepth 100000 in
set_option maxHeartbeats 8000000 in
theorem refNode_any (p : Dp) (hpo : probD p = true) (most : Int) (rv : Value) (B base : Nat) (hBb : B ≤ base) : ∀ (k : Nat) (all : List Nat) (s : Sq) (sv dv : Value) (w : World) (B' : Nat), totalD (padD all) < k → all.length = p.doms.length → (∀ i, nget all i < 65536) → s.got.length ≤ s.nodes → s.nodes ≤ 2000 → GoOn most s →
    LOwn w base sv s.got → Us w B' dv all → B' ≤ w.heap.size → DRls w B rv p.rules → base ≤ w.heap.size →
    Calls Tryz.prog 59 #[.agg #[sv, .int .i64 (s.nodes : Nat), .bool s.opn], .agg #[dv, rv], .int .i64 most] w (NodeQ (nodeD p (solveF most) k (padD all) s).2 base w) := by
  intro k
  induction k with
  | zero => intro all s sv dv w B' h; omega
  | succ k ih =>
  intro all s sv dv w B' hk hal hlt hgn h2k hgo hso hdv hB' hrv hbase
  have HIH := Lib.hid ih
  clear ih
  have HPO := Lib.hid hpo; have HLT := Lib.hid hlt; have HSO := Lib.hid hso; have HDV := Lib.hid hdv; have HRV := Lib.hid hrv; have HGO := Lib.hid hgo; have HAL := Lib.hid hal
  have hn8 := (probD_parts hpo).2.1
  have hopn : s.opn = false := hgo.1
  have hn3 : NdAt dv rv sv s base w (((w.alloc (.cells #[sv, .int .i64 (s.nodes : Nat), .bool s.opn] 51)).alloc (.cells #[dv, rv] 25)).alloc (.cells #[.slice none 0 0, .int .i64 0, .bool false] 51)) :=
    have h3 := heap_new3 w (.cells #[sv, .int .i64 (s.nodes : Nat), .bool s.opn] 51) (.cells #[dv, rv] 25) (.cells #[.slice none 0 0, .int .i64 0, .bool false] 51)
    have hb := Below.new3 w (.cells #[sv, .int .i64 (s.nodes : Nat), .bool s.opn] 51) (.cells #[dv, rv] 25) (.cells #[.slice none 0 0, .int .i64 0, .bool false] 51)
    ⟨h3.1, h3.2.1, h3.2.2, hso.ck (CK.below hb), KeptT.of_below hb⟩
  have HN := Lib.hid hn3
  obtain ⟨sa, sc, rfl⟩ := hso.form
  obtain ⟨da, dc, rfl⟩ : ∃ a c, dv = .slice a p.doms.length c := by rw [← hal]; exact hdv.slice
  obtain ⟨ra, rc, rfl⟩ := hrv.slice
  clear hdv hrv hpo hlt hgo hn3 hso hal hopn
  go_enter Tryz.func59, Tryz.ntmps59
  go_upto_region 1 with fail
  refine abs_wp (fun Z => NdAt (.slice da p.doms.length dc) (.slice ra p.rules.length rc) (.slice sa s.got.length sc) s base w Z ∧ Below w.heap.size w Z) ⟨HN.out, Below.new3 _ _ _ _⟩ ?_
  clear HN HSO
  rintro W ⟨hn, hlow⟩
  have s0 : W.cell? ⟨w.heap.size, 0, none⟩ = some (.slice sa s.got.length sc) := by rw [cell_of_row _ _ _ _ _ _ hn.srch]; rfl
  have s1 : W.cell? ⟨w.heap.size, 1, none⟩ = some (.int .i64 ((s.nodes : Nat))) := by rw [cell_of_row _ _ _ _ _ _ hn.srch]; rfl
  have s2 : W.cell? ⟨w.heap.size, 2, none⟩ = some (.bool (s.opn)) := by rw [cell_of_row _ _ _ _ _ _ hn.srch]; rfl
  have s1f : W.frozen? ⟨w.heap.size, 1, none⟩ = false := by simp [World.frozen?, hn.srch]
  have s2f : W.frozen? ⟨w.heap.size, 2, none⟩ = false := by simp [World.frozen?, hn.srch]
  have r0 : W.cell? ⟨w.heap.size + 2, 0, none⟩ = some (.slice none 0 0) := by rw [cell_of_row _ _ _ _ _ _ hn.res]; rfl
  have r1 : W.cell? ⟨w.heap.size + 2, 1, none⟩ = some (.int .i64 0) := by rw [cell_of_row _ _ _ _ _ _ hn.res]; rfl
  have r2 : W.cell? ⟨w.heap.size + 2, 2, none⟩ = some (.bool false) := by rw [cell_of_row _ _ _ _ _ _ hn.res]; rfl
  have rf0 : W.frozen? ⟨w.heap.size + 2, 0, none⟩ = false := by simp [World.frozen?, hn.res]
  have rf1 : W.frozen? ⟨w.heap.size + 2, 1, none⟩ = false := by simp [World.frozen?, hn.res]
  have rf2 : W.frozen? ⟨w.heap.size + 2, 2, none⟩ = false := by simp [World.frozen?, hn.res]
  have z0 : w.heap.size < W.heap.size := (Array.getElem?_eq_some_iff.1 hn.srch).1
  have z1 : w.heap.size + 1 < W.heap.size := (Array.getElem?_eq_some_iff.1 hn.prob).1
  have z2 : w.heap.size + 2 < W.heap.size := (Array.getElem?_eq_some_iff.1 hn.res).1
  have HN := Lib.hid hn
  clear hn
  by_cases h2000 : s.nodes = 2000
  · have e1 : (2000 : Int) ≤ ((s.nodes : Nat) : Int) := by omega
    have hres : (nodeD p (solveF most) (k + 1) (padD all) s).2 = { s with opn := true } := by rw [nodeD_succ, if_pos h2000]
    have HRES := Lib.hid hres
    have hs := HN.out.setS 2 (.bool true)
    have hret := nd_ret (x := .slice sa s.got.length sc) (y := .int .i64 (s.nodes : Nat)) (z := .bool true) hs.2.2.1 hs.2.2.2.1 hs.2.2.2.2
    have HRET := Lib.hid hret
    clear hs hret hres h2000
    go_wp2
    rw [HRES.out]
    exact bodyPost_ret (results_cell1 (p := 6) (ty := 51) rfl rfl HRET.out.1) rfl ⟨_, rfl, HRET.out.2.1, HRET.out.2.2⟩
  · have e1 : ¬ (2000 : Int) ≤ ((s.nodes : Nat) : Int) := by omega
    go_upto_region 5 with fail
    have hs := HN.out.setS 1 (.int .i64 ((s.nodes : Nat) + 1))
    refine abs_wp (fun Z => NdAt (.slice da p.doms.length dc) (.slice ra p.rules.length rc) (.slice sa s.got.length sc) { s with nodes := s.nodes + 1 } base w Z ∧ Below w.heap.size w Z) ⟨⟨hs.1, hs.2.1, hs.2.2.1, hs.2.2.2.1, hs.2.2.2.2⟩, hlow.setCell (Nat.le_refl _) _⟩ ?_
    clear hs HN s0 s1 s2 s1f s2f r0 r1 r2 rf0 rf1 rf2 z0 z1 z2 e1 hlow
    rintro W1 ⟨hn, hlow⟩
    have b0 : W1.cell? ⟨w.heap.size + 1, 0, none⟩ = some (.slice da p.doms.length dc) := by rw [cell_of_row _ _ _ _ _ _ hn.prob]; rfl
    have b1 : W1.cell? ⟨w.heap.size + 1, 1, none⟩ = some (.slice ra p.rules.length rc) := by rw [cell_of_row _ _ _ _ _ _ hn.prob]; rfl
    have z1 : w.heap.size + 1 < W1.heap.size := (Array.getElem?_eq_some_iff.1 hn.prob).1
    have hrun := refRun_any ⟨all, p.rules⟩ (probD_doms HPO.out HAL.out HLT.out) false (.slice da p.doms.length dc) (.slice ra p.rules.length rc) W1 (B := W1.heap.size) ((HDV.out.below hlow hB').mono (by have := hlow.size; omega)) ((HRV.out.below hlow (by omega)).mono (by have := hlow.size; omega)) (Nat.le_refl _)
    have HRUN := Lib.hid hrun; have HN := Lib.hid hn; have HLOW := Lib.hid hlow
    clear hrun hn hlow
    go_wp2_with fail
    refine HRUN.out.mono ?_
    rintro e w2 ⟨av, lv, al2, fs, rfl, h1, h2, _, hav, hco, hb2⟩
    clear HRUN b0 b1
    have hl2 : al2.length = p.doms.length := h2.trans HAL.out
    have h1 : (runD p false (padD all)).1 = padD al2 := by rw [← h1]; exact congrArg Prod.fst (run_rules (p := p) (q := ⟨all, p.rules⟩) rfl HAL.out.symm (padD all))
    have hfk := padD_fok (by rw [HAL.out]; exact hn8) HLT.out
    have hgd := (run_good (rs := false) HPO.out hfk).f
    have htl := run_total (rs := false) HPO.out hfk
    rw [h1] at hgd htl
    have HLT2 : Hid (∀ i, nget al2 i < 65536) := Lib.hid fun i => by rw [← padD_get]; exact hgd.lt i
    have HND : Hid (nodeD p (solveF most) (k + 1) (padD all) s = if ((padD al2).take p.doms.length).contains 0 then (true, { s with nodes := s.nodes + 1 })
      else if labelD p.doms.length (padD al2) < 0 then ((solveF most s.got (solD p.doms.length (padD al2))).1, { s with nodes := s.nodes + 1, got := (solveF most s.got (solD p.doms.length (padD al2))).2 })
      else goD (fun v s => nodeD p (solveF most) k ((padD al2).set (labelD p.doms.length (padD al2)).toNat (bitN v)) s) (elems (nget (padD al2) (labelD p.doms.length (padD al2)).toNat)) { s with nodes := s.nodes + 1 }) := Lib.hid (by rw [nodeD_succ, if_neg h2000, h1])
    rw [hl2] at hav
    obtain ⟨ga, ca, cura, rfl, hga, hgac, -, -, -⟩ := own_some hav (by have := (probD_parts HPO.out).1; omega)
    obtain ⟨la, lc, rfl⟩ : ∃ a c, lv = .slice a fs.length c := by obtain ⟨cs, h, _⟩ := hco; exact own_form h
    have HAV := Lib.hid hav
    have HN2 := Lib.hid (HN.out.below hb2)
    have HGD := Lib.hid hgd; have HL2 := Lib.hid hl2
    have hs12 : w.heap.size ≤ w2.heap.size := by have := hb2.size; have := HLOW.out.size; omega
    have hbs12 : W1.heap.size ≤ w2.heap.size := hb2.size
    have HLOW2 := Lib.hid (HLOW.out.trans (hb2.mono HLOW.out.size))
    clear hav h1 h2 hco hb2 HN HLOW HDV z1 hga hgac hfk hgd hl2
    go_wp2_with fail
    go_loopw [9] (fun iv wr => ∃ i : Nat, i ≤ p.doms.length ∧ iv = .int .i64 i ∧ (∀ j, j < i → nget al2 j ≠ 0) ∧ Below w2.heap.size w2 wr) (fun iv _ => p.doms.length - (intOf iv).toNat)
    case atStart => exact ⟨0, Nat.zero_le _, rfl, fun j hj => absurd hj (Nat.not_lt_zero _), Below.refl _ _⟩
    case round =>
      obtain ⟨i, hi, rfl, hall, hb⟩ := hrel
      have HALL := Lib.hid hall; have HB := Lib.hid hb
      clear hall
      by_cases hlt : i < p.doms.length
      · have hiI : ((i : Nat) : Int) < ((p.doms.length : Nat) : Int) := by omega
        have hav2 := own_ck HAV.out (CK.below hb)
        have q0 : wr.cell? ⟨ga, i, none⟩ = some (.int .u64 (nget al2 i : Nat)) := by rw [hav2.cellAt i (by omega)]; exact natsV_get _ _ (by rw [HL2.out]; exact hlt)
        have zg : ga < wr.heap.size := (hav2.lt ga rfl).2
        clear hav2 hb
        by_cases hz : nget al2 i = 0
        · have hres : (nodeD p (solveF most) (k + 1) (padD all) s).2 = { s with nodes := s.nodes + 1 } := by
            rw [HND.out, if_pos (contains_z rfl HL2.out hlt hz)]
          have HRES := Lib.hid hres
          have HN3 := Lib.hid (HN2.out.below HB.out)
          have hn := HN3.out
          have s0 : wr.cell? ⟨w.heap.size, 0, none⟩ = some (.slice sa s.got.length sc) := by rw [cell_of_row _ _ _ _ _ _ hn.srch]; rfl
          have s1 : wr.cell? ⟨w.heap.size, 1, none⟩ = some (.int .i64 ((s.nodes : Nat) + 1)) := by rw [cell_of_row _ _ _ _ _ _ hn.srch]; rfl
          have s2 : wr.cell? ⟨w.heap.size, 2, none⟩ = some (.bool (s.opn)) := by rw [cell_of_row _ _ _ _ _ _ hn.srch]; rfl
          have s1f : wr.frozen? ⟨w.heap.size, 1, none⟩ = false := by simp [World.frozen?, hn.srch]
          have s2f : wr.frozen? ⟨w.heap.size, 2, none⟩ = false := by simp [World.frozen?, hn.srch]
          have r0 : wr.cell? ⟨w.heap.size + 2, 0, none⟩ = some (.slice none 0 0) := by rw [cell_of_row _ _ _ _ _ _ hn.res]; rfl
          have r1 : wr.cell? ⟨w.heap.size + 2, 1, none⟩ = some (.int .i64 0) := by rw [cell_of_row _ _ _ _ _ _ hn.res]; rfl
          have r2 : wr.cell? ⟨w.heap.size + 2, 2, none⟩ = some (.bool false) := by rw [cell_of_row _ _ _ _ _ _ hn.res]; rfl
          have rf0 : wr.frozen? ⟨w.heap.size + 2, 0, none⟩ = false := by simp [World.frozen?, hn.res]
          have rf1 : wr.frozen? ⟨w.heap.size + 2, 1, none⟩ = false := by simp [World.frozen?, hn.res]
          have rf2 : wr.frozen? ⟨w.heap.size + 2, 2, none⟩ = false := by simp [World.frozen?, hn.res]
          have z0 : w.heap.size < wr.heap.size := (Array.getElem?_eq_some_iff.1 hn.srch).1
          have z2 : w.heap.size + 2 < wr.heap.size := (Array.getElem?_eq_some_iff.1 hn.res).1
          have HRET := Lib.hid (nd_ret (x := .slice sa s.got.length sc) (y := .int .i64 ((s.nodes : Nat) + 1)) (z := .bool s.opn) hn.res hn.own hn.kept)
          rw [hz] at q0
          clear hres hn hz
          go_wp2
          rw [HRES.out]
          exact bodyPost_ret (results_cell1 (p := 6) (ty := 51) rfl rfl HRET.out.1) rfl ⟨_, rfl, HRET.out.2.1, HRET.out.2.2⟩
        · have HZ := Lib.hid hz
          have f1 : (((nget al2 i : Nat) : Int) == 0) = false := by rw [beq_eq_false_iff_ne]; omega
          clear hz
          go_wp2
          go_roundw
          case rel => exact ⟨i + 1, by omega, by go_num, fun j hj => if h : j = i then h ▸ HZ.out else HALL.out j (by omega), HB.out⟩
          case measure => simp [intOf]; omega
      · have hi2 : i = p.doms.length := by omega
        subst hi2
        have HNZ : Hid (NzD p.doms.length al2) := Lib.hid HALL.out
        have HN3 := Lib.hid (HN2.out.below hb)
        have HAV3 := Lib.hid (own_ck HAV.out (CK.below hb))
        have hs23 := hb.size
        have HLOW3 := Lib.hid (HLOW2.out.trans (hb.mono HLOW2.out.size))
        have HLB := Lib.hid (refLabel_any al2 HLT2.out (by rw [HL2.out]; omega) (.slice (some ⟨ga, 0, none⟩) p.doms.length ca) wr (owns_us HAV3.out (by omega) HL2.out) (Nat.le_refl _))
        rw [HL2.out, ← labelD_pad] at HLB
        have hnz : ((padD al2).take p.doms.length).contains 0 = false := contains_nz rfl HL2.out HNZ.out
        rw [hnz] at HND
        clear hb HALL HN2 HAV hnz HB
        go_wp2_with fail
        refine HLB.out.mono ?_
        rintro e1 w4 ⟨rfl, hb4⟩
        have HN4 := Lib.hid (HN3.out.below hb4)
        have HAV4 := Lib.hid (own_ck HAV3.out (CK.below hb4))
        have HLOW4 := Lib.hid (HLOW3.out.trans (hb4.mono HLOW3.out.size))
        have hs34 := hb4.size
        clear hb4 HN3 HAV3 HLB HLOW3 HLOW2
        rcases label_cases (padD al2) p.doms.length with ⟨hx, hsm⟩ | ⟨x, hx, hxn, h2⟩
        · rw [hx]
          rw [hx, if_neg (by decide), if_pos (by decide)] at HND
          have HSM := Lib.hid hsm
          obtain ⟨sol, hsol⟩ : ∃ sol, sol = solD p.doms.length (padD al2) := ⟨_, rfl⟩
          rw [← hsol] at HND
          have HSOL := Lib.hid hsol
          have hsle := solD_length HGD.out (contains_nz rfl HL2.out HNZ.out) hn8 HSM.out
          have HSLE := Lib.hid hsle
          clear hx hsm hsol hsle
          go_wp2_with fail
          go_loopw [11, 12] (fun yv iv wr => ∃ j : Nat, j ≤ p.doms.length ∧ iv = .int .i64 j ∧ wr.ownsRow w4.heap.size 3 1 yv (solD j (padD al2)).length (intsV (solD j (padD al2))) ∧ Below w4.heap.size w4 wr) (fun _ iv _ => p.doms.length - (intOf iv).toNat)
          case atStart => exact ⟨0, Nat.zero_le _, rfl, World.ownsRow_nil _ _ _ _, Below.refl _ _⟩
          case round =>
            obtain ⟨j, hj, rfl, hown, hb⟩ := hrel
            by_cases hlt : j < p.doms.length
            · obtain ⟨i0, hin, hz0, hz1, hz2⟩ := info_parts info3
              have hjI : ((j : Nat) : Int) < ((p.doms.length : Nat) : Int) := by omega
              have hav2 := own_ck HAV4.out (CK.below hb)
              have q0 : wr.cell? ⟨ga, j, none⟩ = some (.int .u64 (nget al2 j : Nat)) := by rw [hav2.cellAt j (by omega)]; exact natsV_get _ _ (by rw [HL2.out]; exact hlt)
              have zg : ga < wr.heap.size := (hav2.lt ga rfl).2
              have hsl := HSLE.out j (by omega)
              have hone : (elems (nget (padD al2) j)).map natI = [((ctzN (nget al2 j) : Nat) : Int)] := by
                rw [elems_one (HGD.out.lt j) (by rw [padD_get]; exact HNZ.out j hlt) (HSM.out j hlt), padD_get]; rfl
              have HSS : Hid (solD (j + 1) (padD al2) = solD j (padD al2) ++ [((ctzN (nget al2 j) : Nat) : Int)]) := Lib.hid (by rw [solD_succ, hone])
              have HLE := Lib.hid (refLeast_any (nget al2 j) (HLT2.out j) (HNZ.out j hlt) wr)
              obtain ⟨c, hc⟩ : ∃ c, c = ctzN (nget al2 j) := ⟨_, rfl⟩
              rw [← hc] at HSS HLE
              have HNB := Lib.hid (Below.new1 wr (.cells #[.int .i64 (c : Nat)] 3))
              have HOW := Lib.hid hown; have HB := Lib.hid hb
              have hwb := hb.size
              have HSL := Lib.hid hsl
              have hsl8 : (solD j (padD al2)).length ≤ 8 := by omega
              obtain ⟨yl, hyl⟩ : ∃ yl, yl = solD j (padD al2) := ⟨_, rfl⟩
              rw [← hyl] at HSS HOW hsl8
              obtain ⟨ya, yc, rfl⟩ : ∃ a c, u11 = .slice a yl.length c := own_form HOW.out
              clear hown hb hsl hav2 hone hc hyl HSL
              go_wp2_with fail
              refine HLE.out.mono ?_
              rintro e1 w5 ⟨rfl, hww⟩
              rw [hww]; clear hww w5 HLE
              go_wp2_with (at_builtin; refine wpList_append_own _ rfl _ _ 39 rfl w4.heap.size 3 i0 (.int .i64 0) 1 8 Tryz.underlying39 hin hz0 hz1 hz2 rfl (by decide) _ _ _ rfl (HOW.out.alloc _) ⟨wr.heap.size, 0, none⟩ 1 1 (intsV [(c : Int)]) rfl rfl ?c1 ?c2 ?c3 ?c4 ?c5 ?_)
              case c1 =>
                intro q u hq
                match q, hq with
                | 0, hq => cases hq; first | (rw [Addr.add_lit]; exact cell_of_one (heap_new0 _ _)) | rfl
              case c2 => exact ints_one _
              case c3 => unfold maxLen; omega
              case c4 => omega
              case c5 => first | (simp; omega) | omega
              intro v' w3 hown3 hgrow3 _
              have hb3 := (HB.out.trans (HNB.out.mono HB.out.size)).grown hgrow3 (by simp; omega) (fun q hq => (HOW.out.lt q hq).1)
              rw [intsV_append, ← HSS.out] at hown3
              have hl2' : yl.length + 1 = (solD (j + 1) (padD al2)).length := by rw [HSS.out]; simp
              rw [hl2'] at hown3
              have HO3 := Lib.hid hown3; have HB3 := Lib.hid hb3
              clear hown3 hgrow3 hb3 hl2' q0
              go_wp2
              go_roundw
              case rel => exact ⟨j + 1, by omega, by go_num, HO3.out, HB3.out⟩
              case measure => simp [intOf]; omega
            · have hj2 : j = p.doms.length := by omega
              subst hj2
              have hn8' := HN4.out.below hb
              obtain ⟨cs, hcs, hcr⟩ := hn8'.own
              rw [← HSOL.out] at hown
              have hsl : sol.length = p.doms.length := by rw [HSOL.out]; exact HSLE.out _ (Nat.le_refl _)
              obtain ⟨ya, yc, rfl⟩ := own_form hown
              obtain ⟨j0, jin, jz0, jz1, jz2⟩ := info_parts infoL
              have s0 : wr.cell? ⟨w.heap.size, 0, none⟩ = some (.slice sa s.got.length sc) := by rw [cell_of_row _ _ _ _ _ _ hn8'.srch]; rfl
              have zo : w.heap.size < wr.heap.size := (Array.getElem?_eq_some_iff.1 hn8'.srch).1
              have HNB := Lib.hid (Below.new1 wr (.cells #[.slice ya sol.length yc] 39))
              have hfl : s.got.length ≤ 2000 := Nat.le_trans hgn h2k
              have hwb := hb.size
              have HOW := Lib.hid hown; have HSL := Lib.hid hsl; have HCS := Lib.hid hcs; have HCR := Lib.hid hcr; have HN8 := Lib.hid hn8'
              clear hown hb hsl hcs hcr hn8'
              go_wp2_with (at_builtin; refine wpList_append_own _ rfl _ _ 46 rfl base 39 j0 (.slice none 0 0) 1 24 Tryz.underlying46 jin jz0 jz1 jz2 rfl (by decide) _ _ _ rfl (HCS.out.alloc _) ⟨wr.heap.size, 0, none⟩ 1 1 [.slice ya sol.length yc] rfl rfl ?d1 ?d2 ?d3 ?d4 ?d5 ?_)
              case d2 => first | rfl | exact one_one rfl
              case d3 => unfold maxLen; omega
              case d4 => omega
              case d5 => first | (simp; omega) | omega
              intro v' w9 hown9 hgrow9 _
              have hcs1 := HCS.out.alloc (.cells #[.slice ya sol.length yc] 39)
              have o1 := heap_later HN8.out.srch HNB.out zo
              have o9 := (hgrow9.block w.heap.size (Array.getElem?_eq_some_iff.1 o1).1 (fun hh => own_apart hcs1 o1 (by decide) _ hh.symm rfl)).trans o1
              have t1 := heap_later HN8.out.res HNB.out (Array.getElem?_eq_some_iff.1 HN8.out.res).1
              have t9 := (hgrow9.block (w.heap.size + 2) (Array.getElem?_eq_some_iff.1 t1).1 (fun hh => own_apart hcs1 t1 (by decide) _ hh.symm rfl)).trans t1
              have hy1 := own_mono (own_ck HOW.out (CK.below HNB.out)) (show base ≤ w4.heap.size by omega)
              have hso9 : LOwn w9 base v' (s.got ++ [sol]) := LOwn.appended hcs1 hgrow9 (fun i hi => by
                obtain ⟨yv, e5, e6⟩ := HCR.out i hi
                exact ⟨yv, e5, own_ck e6 (CK.below HNB.out)⟩) hy1 hown9
              have hkp9 := (HN8.out.kept.below HNB.out).grown hcs1 hgrow9
              obtain ⟨g5, cp, rfl⟩ := Slice.own_succ hown9
              clear s0
              have s0 : w9.cell? ⟨w.heap.size, 0, none⟩ = some (.slice sa s.got.length sc) := by rw [cell_of_row _ _ _ _ _ _ o9]; rfl
              have s1 : w9.cell? ⟨w.heap.size, 1, none⟩ = some (.int .i64 ((s.nodes : Nat) + 1)) := by rw [cell_of_row _ _ _ _ _ _ o9]; rfl
              have s2 : w9.cell? ⟨w.heap.size, 2, none⟩ = some (.bool s.opn) := by rw [cell_of_row _ _ _ _ _ _ o9]; rfl
              have s0f : w9.frozen? ⟨w.heap.size, 0, none⟩ = false := by simp [World.frozen?, o9]
              have r0 : w9.cell? ⟨w.heap.size + 2, 0, none⟩ = some (.slice none 0 0) := by rw [cell_of_row _ _ _ _ _ _ t9]; rfl
              have r1 : w9.cell? ⟨w.heap.size + 2, 1, none⟩ = some (.int .i64 0) := by rw [cell_of_row _ _ _ _ _ _ t9]; rfl
              have r2 : w9.cell? ⟨w.heap.size + 2, 2, none⟩ = some (.bool false) := by rw [cell_of_row _ _ _ _ _ _ t9]; rfl
              have rf0 : w9.frozen? ⟨w.heap.size + 2, 0, none⟩ = false := by simp [World.frozen?, t9]
              have rf1 : w9.frozen? ⟨w.heap.size + 2, 1, none⟩ = false := by simp [World.frozen?, t9]
              have rf2 : w9.frozen? ⟨w.heap.size + 2, 2, none⟩ = false := by simp [World.frozen?, t9]
              have zo9 : w.heap.size < w9.heap.size := (Array.getElem?_eq_some_iff.1 o9).1
              have zt9 : w.heap.size + 2 < w9.heap.size := (Array.getElem?_eq_some_iff.1 t9).1
              have t9s := (Below.heap_setCell w9 ⟨w.heap.size, 0, none⟩ (.slice (some ⟨g5, 0, none⟩) (s.got.length + 1) cp) (w.heap.size + 2) (by show w.heap.size + 2 ≠ w.heap.size; omega)).trans t9
              have HRET := Lib.hid (nd_ret (x := .slice (some ⟨g5, 0, none⟩) (s.got.length + 1) cp) (y := .int .i64 ((s.nodes : Nat) + 1)) (z := .bool s.opn) t9s (hso9.setF o9 (by decide) (by decide)) (hkp9.setNew (p := ⟨w.heap.size, 0, none⟩) (Nat.le_refl _) _))
              have hres : (nodeD p (solveF most) (k + 1) (padD all) s).2 = { s with nodes := s.nodes + 1, got := s.got ++ [sol] } := by rw [HND.out]; rfl
              have HRES := Lib.hid hres
              clear hown9 hgrow9 hcs1 o1 o9 t1 t9 hy1 hso9 hkp9 t9s hres HCS HCR HN8 HOW HNB
              go_wp2
              rw [HRES.out]
              exact bodyPost_ret (results_cell1 (p := 6) (ty := 51) rfl rfl HRET.out.1) rfl ⟨_, rfl, HRET.out.2.1, HRET.out.2.2⟩
        · have hxD : decide (((x : Nat) : Int) < 0) = false := decide_eq_false (by omega)
          rw [hx]
          rw [hx, if_neg (by decide), if_neg (by omega), Int.toNat_natCast, padD_get] at HND
          rw [padD_get] at h2
          have hxal : x < al2.length := by rw [HL2.out]; exact hxn
          have hxI : ((x : Nat) : Int) < ((p.doms.length : Nat) : Int) := by omega
          obtain ⟨step, hstep⟩ : ∃ step, step = fun (v : Nat) (s : Sq) => nodeD p (solveF most) k ((padD al2).set x (bitN v)) s := ⟨_, rfl⟩
          rw [← hstep] at HND
          obtain ⟨d, hd⟩ : ∃ d, d = nget al2 x := ⟨_, rfl⟩
          rw [← hd] at HND
          obtain ⟨R, hR⟩ : ∃ R, R = (goD step (elems d) { s with nodes := s.nodes + 1 }).2 := ⟨_, rfl⟩
          have HRES : Hid ((nodeD p (solveF most) (k + 1) (padD all) s).2 = R) := Lib.hid (by rw [HND.out, hR])
          have hd16 : d < 65536 := by rw [hd]; exact HLT2.out x
          have HRS : Hid (RestD most step d 0 R { s with nodes := s.nodes + 1 }) := Lib.hid (by rw [hR]; exact RestD.start hd16 HGO.out)
          have hgd' := HGD.out
          have HCH : Hid (∀ v, v < 16 → totalD ((padD al2).set x (bitN v)) < k ∧ Fok ((padD al2).set x (bitN v))) := Lib.hid fun v hv => by
            have := total_child hgd' (k := x) (x := v) (by omega) (by rw [padD_get]; exact h2) hv
            exact ⟨by omega, hgd'.child x hv⟩
          have HFL : Hid (∀ v s', v < 16 → GoOn most s' → ((step v s').1 = true ↔ GoOn most (step v s').2)) := Lib.hid fun v s' hv hg => by
            rw [hstep]; exact nodeD_flag HPO.out most k _ s' (HCH.out v hv).1 (HCH.out v hv).2 hg
          have HFW : Hid (∀ v s', s'.got.length ≤ s'.nodes → s'.nodes ≤ 2000 → (step v s').2.got.length ≤ (step v s').2.nodes ∧ (step v s').2.nodes ≤ 2000) := Lib.hid fun v s' h1 h2 => by
            rw [hstep]; exact ⟨nodeD_few p most k _ s' h1, nodeD_le p _ k _ s' h2⟩
          have HCL : Hid (∀ (v : Nat) (s' : Sq) (sv dv : Value) (V : World) (B' : Nat), v < 16 → s'.got.length ≤ s'.nodes → s'.nodes ≤ 2000 → GoOn most s' → LOwn V base sv s'.got → Us V B' dv (al2.set x (bitN v)) → B' ≤ V.heap.size → DRls V B (.slice ra p.rules.length rc) p.rules → base ≤ V.heap.size →
              Calls Tryz.prog 59 #[.agg #[sv, .int .i64 (s'.nodes : Nat), .bool s'.opn], .agg #[dv, .slice ra p.rules.length rc], .int .i64 most] V (NodeQ (step v s').2 base V)) := Lib.hid fun v s' sv dv V B' hv h1 h2 hg hl hu hB hr hb => by
            have := HIH.out (al2.set x (bitN v)) s' sv dv V B' (by rw [← padD_set _ hxal]; exact (HCH.out v hv).1) (by rw [List.length_set]; exact HL2.out) (set_lt HLT2.out (bit16 hv)) h1 h2 hg hl hu hB hr hb
            rw [← padD_set _ hxal] at this
            rw [hstep]; exact this
          have HD := Lib.hid hd
          have HST0 : Hid (s.got.length ≤ s.nodes + 1 ∧ s.nodes + 1 ≤ 2000) := Lib.hid ⟨by omega, by omega⟩
          clear hx h2 hstep hd hR HND hgd' HIH HCH htl
          go_wp2_with fail
          go_loopw [13] (fun iv wr => ∃ (v : Nat) (s' : Sq) (sv' : Value), v ≤ 16 ∧ iv = .int .i64 v ∧ RestD most step d v R s' ∧ s'.got.length ≤ s'.nodes ∧ s'.nodes ≤ 2000 ∧ NdAt (.slice da p.doms.length dc) (.slice ra p.rules.length rc) sv' s' base w wr ∧
            wr.ownsRow W1.heap.size 56 1 (.slice (some ⟨ga, 0, none⟩) p.doms.length ca) p.doms.length (natsV al2)) (fun iv _ => 16 - (intOf iv).toNat)
          case atStart => exact ⟨0, _, _, Nat.zero_le _, rfl, HRS.out, HST0.out.1, HST0.out.2, HN4.out, HAV4.out⟩
          case round =>
            clear HRS HST0 HN4 HAV4
            obtain ⟨v, s', sv', hv, rfl, hrs, hgn', h2k', hn, hav⟩ := hrel
            obtain ⟨xa, xc, rfl⟩ := hn.own.form
            have HRS := Lib.hid hrs; have HN := Lib.hid hn; have HAV := Lib.hid hav
            have s0 : wr.cell? ⟨w.heap.size, 0, none⟩ = some (.slice xa s'.got.length xc) := by rw [cell_of_row _ _ _ _ _ _ hn.srch]; rfl
            have s1 : wr.cell? ⟨w.heap.size, 1, none⟩ = some (.int .i64 ((s'.nodes : Nat))) := by rw [cell_of_row _ _ _ _ _ _ hn.srch]; rfl
            have s2 : wr.cell? ⟨w.heap.size, 2, none⟩ = some (.bool (s'.opn)) := by rw [cell_of_row _ _ _ _ _ _ hn.srch]; rfl
            have s1f : wr.frozen? ⟨w.heap.size, 1, none⟩ = false := by simp [World.frozen?, hn.srch]
            have s2f : wr.frozen? ⟨w.heap.size, 2, none⟩ = false := by simp [World.frozen?, hn.srch]
            have r0 : wr.cell? ⟨w.heap.size + 2, 0, none⟩ = some (.slice none 0 0) := by rw [cell_of_row _ _ _ _ _ _ hn.res]; rfl
            have r1 : wr.cell? ⟨w.heap.size + 2, 1, none⟩ = some (.int .i64 0) := by rw [cell_of_row _ _ _ _ _ _ hn.res]; rfl
            have r2 : wr.cell? ⟨w.heap.size + 2, 2, none⟩ = some (.bool false) := by rw [cell_of_row _ _ _ _ _ _ hn.res]; rfl
            have rf0 : wr.frozen? ⟨w.heap.size + 2, 0, none⟩ = false := by simp [World.frozen?, hn.res]
            have rf1 : wr.frozen? ⟨w.heap.size + 2, 1, none⟩ = false := by simp [World.frozen?, hn.res]
            have rf2 : wr.frozen? ⟨w.heap.size + 2, 2, none⟩ = false := by simp [World.frozen?, hn.res]
            have z0 : w.heap.size < wr.heap.size := (Array.getElem?_eq_some_iff.1 hn.srch).1
            have z1 : w.heap.size + 1 < wr.heap.size := (Array.getElem?_eq_some_iff.1 hn.prob).1
            have z2 : w.heap.size + 2 < wr.heap.size := (Array.getElem?_eq_some_iff.1 hn.res).1
            have HRET := Lib.hid (nd_ret (x := .slice xa s'.got.length xc) (y := .int .i64 (s'.nodes : Nat)) (z := .bool s'.opn) hn.res hn.own hn.kept)
            clear hrs hn hav
            by_cases hvt : v < 16
            · have hvI : ((v : Nat) : Int) < 16 := by omega
              by_cases hm : (s'.got.length : Int) < most
              · cases hop : s'.opn
                case true =>
                  have HFR := Lib.hid (HRS.out.fin (.inr fun h => by rw [h.1] at hop; cases hop) hv)
                  have HOP := Lib.hid hop
                  rw [hop] at s2
                  clear hop
                  go_wp2
                  rw [HRES.out, ← HFR.out]
                  rw [HOP.out] at HRET
                  exact bodyPost_ret (results_cell1 (p := 6) (ty := 51) rfl rfl HRET.out.1) rfl ⟨_, by rw [HOP.out], HRET.out.2.1, HRET.out.2.2⟩
                case false =>
                  have HGO' : Hid (GoOn most s') := Lib.hid ⟨hop, hm⟩
                  have HOP := Lib.hid hop
                  rw [hop] at s2
                  have q0 : wr.cell? ⟨ga, x, none⟩ = some (.int .u64 (d : Nat)) := by rw [HAV.out.cellAt x (by omega), HD.out]; exact natsV_get _ _ hxal
                  have zg : ga < wr.heap.size := (HAV.out.lt ga rfl).2
                  have HHA := Lib.hid (refHas_any d (v : Int) wr (Nat.lt_trans hd16 (by decide)))
                  rw [hasD_bit hvt] at HHA
                  clear hop r0 r1 r2 rf0 rf1 rf2 HRET
                  cases hbt : d.testBit v <;> rw [hbt] at HHA
                  case false =>
                    have HSK := Lib.hid (HRS.out.skip hvt hbt)
                    clear hbt
                    go_wp2_with fail
                    refine HHA.out.mono ?_
                    rintro e1 w5 ⟨rfl, hww⟩
                    rw [hww]; clear hww w5 HHA
                    go_wp2
                    go_roundw
                    case rel => exact ⟨v + 1, s', _, by omega, by go_num, HSK.out, hgn', h2k', HN.out, HAV.out⟩
                    case measure => simp [intOf]; omega
                  case true =>
                    have HTK := Lib.hid (HRS.out.take hvt hbt HGO'.out (HFL.out v s' hvt HGO'.out))
                    obtain ⟨i0, hin, hz0, hz1, hz2⟩ := info_parts infoU
                    have HUS := Lib.hid (owns_us HAV.out (by omega) HL2.out)
                    clear hbt
                    go_wp2_with fail
                    refine HHA.out.mono ?_
                    rintro e1 w5 ⟨rfl, hww⟩
                    rw [hww]; clear hww w5 HHA
                    go_wp2_with (at_builtin; refine wpList_append_row rfl _ _ 22 rfl wr.heap.size 56 i0 (.int .u64 0) 1 8 Tryz.underlying22 hin hz0 hz1 hz2 rfl (by decide) (.slice none 0 0) 0 [] rfl (World.ownsRow_nil _ _ _ _) (.slice (some ⟨ga, 0, none⟩) p.doms.length ca) p.doms.length _ wr.heap.size rfl (by have := HUS.out; unfold Us at this; rwa [HL2.out] at this) (natsV al2) (by rw [natsV_length, Nat.mul_one, HL2.out]) ?c1 (natsV_one _) ?c3 ?c4 ?c5 ?_)
                    case c1 => exact fun i hi => natsV_get _ _ (by have := HL2.out; omega)
                    case c3 => unfold maxLen; omega
                    case c4 => omega
                    case c5 => first | exact Nat.le_refl _ | (simp; omega)
                    intro v1 w5 hown5 hgrow5 _
                    try simp only [Nat.zero_add, List.nil_append] at hown5
                    have hb5 := (Below.refl wr.heap.size wr).grown hgrow5 (Nat.le_refl _) (fun q hq => by simp [Value.ownBlock] at hq)
                    obtain ⟨g2, c2, cur2, rfl, hg2, hg2c, -, -, hcur2⟩ := own_some hown5 (by omega)
                    have HO5 := Lib.hid (own_put (i := x) (x := bitN v) hown5)
                    have y0 : w5.cell? ⟨g2, x, none⟩ = some (.int .u64 (nget al2 x : Nat)) := by rw [hown5.cellAt x (by omega)]; exact natsV_get _ _ hxal
                    have y0f : w5.frozen? ⟨g2, x, none⟩ = false := by simp [World.frozen?, hg2c]
                    have zg2 : g2 < w5.heap.size := (Array.getElem?_eq_some_iff.1 hg2c).1
                    have HON := Lib.hid (refOne_any v w5 (by omega))
                    have hb6 := hb5.setCell (p := ⟨g2, x, none⟩) (by show wr.heap.size ≤ g2; exact hg2) (.int .u64 (bitN v : Nat))
                    have HB6 := Lib.hid hb6
                    clear hown5 hgrow5 hcur2 hg2c hb6 s0 s1 s2 s1f s2f q0 hin hz0 hz1 hz2 i0
                    have hn5 := HN.out.below hb5
                    have s0 : w5.cell? ⟨w.heap.size, 0, none⟩ = some (.slice xa s'.got.length xc) := by rw [cell_of_row _ _ _ _ _ _ hn5.srch]; rfl
                    have s1 : w5.cell? ⟨w.heap.size, 1, none⟩ = some (.int .i64 ((s'.nodes : Nat))) := by rw [cell_of_row _ _ _ _ _ _ hn5.srch]; rfl
                    have s2 : w5.cell? ⟨w.heap.size, 2, none⟩ = some (.bool (s'.opn)) := by rw [cell_of_row _ _ _ _ _ _ hn5.srch]; rfl
                    have s1f : w5.frozen? ⟨w.heap.size, 1, none⟩ = false := by simp [World.frozen?, hn5.srch]
                    have s2f : w5.frozen? ⟨w.heap.size, 2, none⟩ = false := by simp [World.frozen?, hn5.srch]
                    have p1 : w5.cell? ⟨w.heap.size + 1, 1, none⟩ = some (.slice ra p.rules.length rc) := by rw [cell_of_row _ _ _ _ _ _ hn5.prob]; rfl
                    have ng0 : w.heap.size ≠ g2 := by omega
                    have ng1 : w.heap.size + 1 ≠ g2 := by omega
                    clear hn5 hb5
                    have HN6 := Lib.hid (HN.out.below HB6.out)
                    have HAV6 := Lib.hid (own_ck HAV.out (CK.below HB6.out))
                    have hs6 := HB6.out.size
                    have hcall := HCL.out v s' (.slice xa s'.got.length xc) (.slice (some ⟨g2, 0, none⟩) p.doms.length c2) (w5.setCell ⟨g2, x, none⟩ (.int .u64 (bitN v : Nat))) (w5.setCell ⟨g2, x, none⟩ (.int .u64 (bitN v : Nat))).heap.size hvt hgn' h2k' HGO'.out HN6.out.own
                      (owns_us HO5.out (by omega) (by rw [List.length_set]; exact HL2.out)) (Nat.le_refl _) (HRV.out.below (HN6.out.kept.toBelow (B := B) hBb (by omega) (fun _ _ h => h)) (Nat.le_refl _)) (by omega)
                    have HCALL := Lib.hid hcall
                    clear hcall
                    go_wp2_with fail
                    refine HON.out.mono ?_
                    rintro e1 w6 ⟨rfl, hww⟩
                    rw [hww]; clear hww w6 HON
                    go_wp2_with fail
                    refine HCALL.out.mono ?_
                    rintro e1 w7 ⟨sv3, rfl, hso3, hkp3⟩
                    obtain ⟨a3, c3, rfl⟩ := hso3.form
                    obtain ⟨S, hS⟩ : ∃ S, S = (step v s').2 := ⟨_, rfl⟩
                    rw [← hS] at hso3 ⊢
                    have HS := Lib.hid hS
                    have hk7 := HN6.out.kpt hkp3
                    have hsr7 := hk7.2.1
                    clear s0 s1 s2 s1f s2f p1 y0 y0f HCALL hS
                    have s0 : w7.cell? ⟨w.heap.size, 0, none⟩ = some (.slice xa s'.got.length xc) := by rw [cell_of_row _ _ _ _ _ _ hsr7]; rfl
                    have s1 : w7.cell? ⟨w.heap.size, 1, none⟩ = some (.int .i64 (s'.nodes : Nat)) := by rw [cell_of_row _ _ _ _ _ _ hsr7]; rfl
                    have s2 : w7.cell? ⟨w.heap.size, 2, none⟩ = some (.bool s'.opn) := by rw [cell_of_row _ _ _ _ _ _ hsr7]; rfl
                    have s0f : w7.frozen? ⟨w.heap.size, 0, none⟩ = false := by simp [World.frozen?, hsr7]
                    have s1f : w7.frozen? ⟨w.heap.size, 1, none⟩ = false := by simp [World.frozen?, hsr7]
                    have s2f : w7.frozen? ⟨w.heap.size, 2, none⟩ = false := by simp [World.frozen?, hsr7]
                    have hn9 := nd_set3 (s' := S) HN6.out hkp3 hso3
                    have hav7 : w7.ownsRow W1.heap.size 56 1 (.slice (some ⟨ga, 0, none⟩) p.doms.length ca) p.doms.length (natsV al2) := own_type HAV6.out fun k c e => hkp3.same _ _ e (fun hh => hh) (.inr (nT (by decide)))
                    have j1 := set_row (o := 0) (v := .slice a3 S.got.length c3) hsr7
                    have j2 := set_row (o := 1) (v := .int .i64 (S.nodes : Nat)) j1
                    have hav9 := own_setF (x := .bool S.opn) (o := 2) (own_setF (x := .int .i64 (S.nodes : Nat)) (o := 1) (own_setF (x := .slice a3 S.got.length c3) (o := 0) hav7 hsr7 (by decide)) j1 (by decide)) j2 (by decide)
                    have HN9 := Lib.hid hn9; have HAV9 := Lib.hid hav9
                    have HTK2 : Hid (RestD most step d (v + 1) R S) := Lib.hid (by rw [HS.out]; exact HTK.out)
                    have HFW2 : Hid (S.got.length ≤ S.nodes ∧ S.nodes ≤ 2000) := Lib.hid (by rw [HS.out]; exact HFW.out v s' hgn' h2k')
                    clear hso3 hkp3 hk7 hsr7 hn9 hav7 hav9 j1 j2 HN6 HAV6 HN HAV HB6
                    go_wp2
                    go_roundw
                    case rel => exact ⟨v + 1, S, _, by omega, by go_num, HTK2.out, HFW2.out.1, HFW2.out.2, HN9.out, HAV9.out⟩
                    case measure => simp [intOf]; omega
              · have hmD : decide ((s'.got.length : Int) < most) = false := decide_eq_false hm
                have HFR := Lib.hid (HRS.out.fin (.inr fun h => hm h.2) hv)
                clear hm
                go_wp2
                rw [HRES.out, ← HFR.out]
                exact bodyPost_ret (results_cell1 (p := 6) (ty := 51) rfl rfl HRET.out.1) rfl ⟨_, rfl, HRET.out.2.1, HRET.out.2.2⟩
            · have HFR := Lib.hid (HRS.out.fin (.inl hvt) hv)
              have hv2 : v = 16 := by omega
              subst hv2
              go_wp2
              rw [HRES.out, ← HFR.out]
              exact bodyPost_ret (results_cell1 (p := 6) (ty := 51) rfl rfl HRET.out.1) rfl ⟨_, rfl, HRET.out.2.1, HRET.out.2.2⟩
end Go.Proofs.YtdmmegmkdhinjaaGreatDoor
