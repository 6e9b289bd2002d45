/- The law's own search: one set of sets. -/
import Derived.Test.YtilbbnjfaoldoaaGreatDoorSoundA
import Derived.Test.YtilbbnjfaoldoaaGreatDoorPlainP
import Derived.Test.YtilbbnjfaoldoaaGreatDoorBH
namespace Go.Proofs.YtilbbnjfaoldoaaGreatDoor
open Go Go.RowKit
attribute [local go_sem] cell_grow u64_sAnd u64_sOr u64_sDiff sDiff_all zeqI zneI sAnd_bit_zero sAnd_bit_zeroN sAnd_bit_nonzero rowOf_grow rowOk_grow rowOf_alloc rowOk_alloc

theorem Tryz.infoUU : (Tryz.prog.info? 35).map (fun i => (i.zero, i.size, i.bytes)) = some (some (.slice none 0 0), 1, 24) := by kernel_rfl
/-- What the law's search needs of memory. -/
structure WayAt (p : Prob) (most : Int) (bv rv : Value) (qp qm B base : Nat) (w : World) : Prop where
  bnds : Bnds w B bv p.bounds
  rls : Rls w B rv p.rules
  pp : w.heap[qp]? = some (.cells #[bv, rv] 25 (0, 0))
  mm : w.heap[qm]? = some (.cells #[.int .i64 most] 3 (0, 0))
  base : base ≤ w.heap.size
/-- What it has found, in its variable. -/
def OutW (w : World) (qo base : Nat) (ss : List (List Nat)) : Prop := ∃ ov, w.heap[qo]? = some (.cells #[ov] 29 (0, 0)) ∧ SOwn w base ov ss
theorem WayAt.kept {p : Prob} {most : Int} {bv rv : Value} {qp qm qo B base : Nat} {w w' : World} {c : Array Value} (h : WayAt p most bv rv qp qm B base w) (ho : w.heap[qo]? = some (.cells c 29 (0, 0))) (hB : B ≤ qo) (hBb : B ≤ base) (hk : KeptT 35 (One qo) base w w') : WayAt p most bv rv qp qm B base w' := by
  have hol : qo < w.heap.size := (Array.getElem?_eq_some_iff.1 ho).1
  have hlow : Below B w w' := hk.toBelow hBb (by omega) (fun q hq h => by unfold One at h; omega)
  have key : ∀ (q : Nat) (c' : Array Value) (t : TypeId), w.heap[q]? = some (.cells c' t (0, 0)) → t ≠ 29 → t ≠ 35 → w'.heap[q]? = some (.cells c' t (0, 0)) := fun q c' t e h1 h2 =>
    hk.same q _ e (fun hh => by unfold One at hh; subst hh; rw [ho] at e; cases e; exact h1 rfl) (.inr (nT h2))
  exact ⟨h.bnds.below hlow (Nat.le_refl _), h.rls.below hlow (Nat.le_refl _), key _ _ _ h.pp (by decide) (by decide), key _ _ _ h.mm (by decide) (by decide), Nat.le_trans h.base hk.size⟩
theorem WayAt.below {p : Prob} {most : Int} {bv rv : Value} {qp qm B base : Nat} {w w' : World} (h : WayAt p most bv rv qp qm B base w) (hB : B ≤ base) (hb : Below w.heap.size w w') : WayAt p most bv rv qp qm B base w' :=
  ⟨h.bnds.below hb (Nat.le_trans hB h.base), h.rls.below hb (Nat.le_trans hB h.base), heap_later h.pp hb (Array.getElem?_eq_some_iff.1 h.pp).1, heap_later h.mm hb (Array.getElem?_eq_some_iff.1 h.mm).1, Nat.le_trans h.base hb.size⟩
theorem OutW.below {w w' : World} {qo base : Nat} {ss : List (List Nat)} (h : OutW w qo base ss) (hb : Below w.heap.size w w') : OutW w' qo base ss := by
  obtain ⟨ov, h1, h2⟩ := h
  exact ⟨ov, heap_later h1 hb (Array.getElem?_eq_some_iff.1 h1).1, h2.ck (CK.below hb)⟩
/-- A row of sets of its own stays. -/
theorem own_keptT {w w' : World} {qo base : Nat} {lv : Value} {n : Nat} {xs : List Value} {c : Array Value} (h : w.ownsRow 0 38 1 lv n xs) (ho : w.heap[qo]? = some (.cells c 29 (0, 0))) (hk : KeptT 35 (One qo) base w w') : w'.ownsRow 0 38 1 lv n xs :=
  own_type h fun k c' e => hk.same k _ e (fun hh => by unfold One at hh; subst hh; rw [ho] at e; simp only [Option.some.injEq, Obj.cells.injEq] at e; exact absurd e.2.1 (by decide)) (.inr (nT (by decide)))
theorem sown_slice {w : World} {base : Nat} {v : Value} {ss : List (List Nat)} (h : SOwn w base v ss) : ∃ a c, v = .slice a ss.length c := by
  obtain ⟨cs, hc, _⟩ := h
  exact own_form hc
set_option maxRecDepth 100000 in
theorem heldp_any (r : Rl) (hf : RFit r) (l : List Nat) (vv lv : Value) (q : Nat) (w : World) {B : Nat} (hv : Ints w B vv r.vars) (hl : Us w B lv l) (hB : B ≤ w.heap.size) (hul : ∀ s ∈ l, U64 s) (hr : ∀ i, i < r.vars.length → 0 ≤ iget r.vars i ∧ iget r.vars i < l.length) (hq : w.cell? ⟨q, 0, none⟩ = some lv) (hql : q < w.heap.size) :
    Gives Tryz.prog 28 #[.agg #[.int .i64 r.kind, vv, .int .i64 r.low, .int .i64 r.high], .pointer (some ⟨q, 0, none⟩)] w (.bool (!heldN r l)) := by
  unfold Gives
  have HB0 := Lib.hid (Below.new1 w (.cells #[.int .i64 r.kind, vv, .int .i64 r.low, .int .i64 r.high] 62))
  have HV := Lib.hid (hv.below HB0.out hB); have HL := Lib.hid (hl.below HB0.out hB); have HF := Lib.hid hf; have HUL := Lib.hid hul; have HR := Lib.hid hr
  obtain ⟨va, vc, rfl⟩ := hv.slice
  obtain ⟨la, lc, rfl⟩ := hl.slice
  have q0 : (w.alloc (.cells #[.int .i64 r.kind, .slice va r.vars.length vc, .int .i64 r.low, .int .i64 r.high] 62)).cell? ⟨q, 0, none⟩ = some (.slice la l.length lc) := (HB0.out.cell (p := ⟨q, 0, none⟩) hql).trans hq
  clear hv hl hf hul hr hq
  go_enter Tryz.func28, Tryz.ntmps28
  go_wp2_with fail
  refine (held_any r HF.out l _ _ _ HV.out HL.out (by simp; omega) HUL.out HR.out).mono ?_
  rintro e w1 ⟨rfl, hb1⟩
  have HB1 := Lib.hid (HB0.out.trans (hb1.mono HB0.out.size))
  clear hb1 HB0 HV HL q0
  go_wp2
  go_ret
  exact ⟨rfl, HB1.out⟩
def foundAOps : Array Oper := #[
  { dst := some 11, op := Op.load 29 (Operand.tmp 2), type := 29, pos := "outright.go:206", after := #[], guard := none },
  { dst := some 12, op := Op.load 35 (Operand.tmp 4), type := 35, pos := "outright.go:206", after := #[], guard := none },
  { dst := some 13, op := Op.call { callee := Callee.value (Operand.func 30), args := #[Operand.tmp 12], argTypes := #[35] }, type := 35, pos := "outright.go:206", after := #[{ on := 1, ground := Ground.data }], guard := none },
  { dst := some 14, op := Op.buildSlice 29 1 #[(0, Operand.tmp 13)], type := 29, pos := "outright.go:206", after := #[{ on := 2, ground := Ground.data }], guard := none },
  { dst := some 15, op := Op.call { callee := Callee.builtin Builtin.append, args := #[Operand.tmp 11, Operand.tmp 14], argTypes := #[29, 29] }, type := 29, pos := "outright.go:206", after := #[{ on := 0, ground := Ground.data }, { on := 3, ground := Ground.data }, { on := 2, ground := Ground.chain }], guard := none },
  { dst := none, op := Op.store 29 (Operand.tmp 2) (Operand.tmp 15), type := 0, pos := "outright.go:206", after := #[{ on := 4, ground := Ground.data }, { on := 4, ground := Ground.chain }, { on := 0, ground := Ground.phase }, { on := 1, ground := Ground.phase }, { on := 2, ground := Ground.phase }, { on := 3, ground := Ground.phase }, { on := 4, ground := Ground.phase }], guard := none }]
set_option maxRecDepth 100000 in
set_option maxHeartbeats 4000000 in
theorem found1_any (p : Prob) (hpo : probOk p = true) (most : Int) (bv rv : Value) (qp qo qm B base : Nat) (hBo : B ≤ qo) (hBb : B ≤ base) (l : List Nat) (hl : l.length = p.bounds.length) (hul : ∀ s ∈ l, s < 4096) (ss : List (List Nat)) (h100 : ss.length ≤ 100) (lv : Value) (w : World) (hw : WayAt p most bv rv qp qm B base w) (hlv : w.ownsRow 0 38 1 lv l.length (natsV l)) (hout : OutW w qo base ss) :
    Calls Tryz.prog 26 #[lv, .pointer (some ⟨qp, 0, none⟩), .pointer (some ⟨qo, 0, none⟩), .pointer (some ⟨qm, 0, none⟩)] w fun e w' =>
      e = .returned (.bool (decide (((stW (heldAll p) ss l).length : Int) < most))) ∧ OutW w' qo base (stW (heldAll p) ss l) ∧ KeptT 35 (One qo) base w w' := by
  obtain ⟨ov, hko, hso⟩ := hout
  obtain ⟨oa, oc, rfl⟩ := sown_slice hso
  obtain ⟨la, lc, rfl⟩ := own_form hlv
  obtain ⟨ra, rc, rfl⟩ := hw.rls.slice
  have hn1 := (probOk_fit hpo).1
  have hn8 := (probOk_fit hpo).2.1
  have hol : qo < w.heap.size := (Array.getElem?_eq_some_iff.1 hko).1
  have hpl : qp < w.heap.size := (Array.getElem?_eq_some_iff.1 hw.pp).1
  have hml : qm < w.heap.size := (Array.getElem?_eq_some_iff.1 hw.mm).1
  have hbn := Below.new1 w (.cells #[.slice la l.length lc] 35)
  have hw1 := hw.below hBb hbn
  have p1 : (w.alloc (.cells #[.slice la l.length lc] 35)).cell? ⟨qp, 1, none⟩ = some (.slice ra p.rules.length rc) := by rw [cell_of_row _ _ _ _ _ _ hw1.pp]; rfl
  have HW1 := Lib.hid hw1
  have hlu := ownsRow_us (own_ck hlv (CK.below hbn)) (by omega) rfl
  have HLU := Lib.hid hlu; have HLV := Lib.hid hlv
  have HBN := Lib.hid hbn; have HSO := Lib.hid hso; have HKO := Lib.hid hko; have HPO := Lib.hid hpo; have HUL := Lib.hid hul; have HL := Lib.hid hl
  have hk0 := heap_new0 w (.cells #[.slice la l.length lc] 35)
  have HK0 := Lib.hid hk0
  have hbase := hw.base
  have HLT : Hid (∀ k, (Value.slice oa ss.length oc).ownBlock = some k → k < w.heap.size) := Lib.hid (by obtain ⟨cs, hc, _⟩ := hso; exact fun k hk => (hc.lt k hk).2)
  have hl8 : l.length ≤ 8 := by omega
  have hl1 : 1 ≤ l.length := by omega
  clear hbn hw1 hlu hlv hso hko hpo hul hw hk0 hl
  obtain ⟨c, hrow, hc⟩ := HW1.out.rls
  have HROW := Lib.hid hrow; have HC := Lib.hid hc
  clear hrow hc
  go_enter Tryz.func26, Tryz.ntmps26
  go_wp2_with fail
  refine (hasR _ _ c 28 #[.pointer (some ⟨w.heap.size, 0, none⟩)] (notHeld p l) _ HROW.out (by have := HBN.out.size; have := HW1.out.base; omega) (enters_of Tryz.func28 (by kernel_rfl) rfl) ?_).mono ?_
  · intro i hi w' hb'
    obtain ⟨e1, e2, e3, e4⟩ := HC.out i hi
    have hs := HBN.out.size
    have hB1 : B ≤ (w.alloc (.cells #[.slice la l.length lc] 35)).heap.size := by omega
    have hs1 : (w.alloc (.cells #[.slice la l.length lc] 35)).heap.size = w.heap.size + 1 := by simp
    rw [e1, e3, e4]
    unfold notHeld
    have hrg := probOk_range HPO.out i hi
    exact heldp_any _ ((probOk_fit HPO.out).2.2.2.1 i hi) l _ _ _ w' ((e2.below hb' hB1).mono hB1) (HLU.out.below hb' (Nat.le_refl _)) hb'.size (fun s hs => Nat.lt_trans (HUL.out s hs) (by decide)) (fun k hk => by rw [HL.out]; exact hrg k hk) ((hb'.cell (p := ⟨w.heap.size, 0, none⟩) (by show w.heap.size < _; omega)).trans (by rw [cell_of_row _ _ _ _ _ _ HK0.out]; rfl)) (by have := hb'.size; omega)
  rintro e w2 ⟨rfl, hb2⟩
  have hs1 : (w.alloc (.cells #[.slice la l.length lc] 35)).heap.size = w.heap.size + 1 := by simp
  have hbw := HBN.out.trans (hb2.mono HBN.out.size)
  have hsz2 := hb2.size
  have hw2 := HW1.out.below hBb hb2
  have hko2 := heap_later HKO.out hbw hol
  have hkb2 := heap_later HK0.out hb2 (by omega)
  have hso2 := HSO.out.ck (CK.below hbw)
  have HW2 := Lib.hid hw2; have HKO2 := Lib.hid hko2; have HSO2 := Lib.hid hso2; have HBW := Lib.hid hbw; have HKB2 := Lib.hid hkb2
  clear hb2 hbw hw2 hko2 hso2 hkb2 HROW HC HLU HW1 HKO HSO HBN HK0 p1
  cases hany : (List.range p.rules.length).any (notHeld p l)
  case true =>
    have hst : stW (heldAll p) ss l = ss := by unfold stW heldAll; rw [hany]; rfl
    have HST := Lib.hid hst
    clear hany hst
    have o0 : w2.cell? ⟨qo, 0, none⟩ = some (.slice oa ss.length oc) := by rw [cell_of_row _ _ _ _ _ _ HKO2.out]; rfl
    have m0 : w2.cell? ⟨qm, 0, none⟩ = some (.int .i64 most) := by rw [cell_of_row _ _ _ _ _ _ HW2.out.mm]; rfl
    go_wp2
    go_ret
    rw [HST.out]
    exact ⟨rfl, ⟨_, HKO2.out, HSO2.out⟩, KeptT.of_below HBW.out⟩
  case false =>
    have hst : stW (heldAll p) ss l = ss ++ [l] := by unfold stW heldAll; rw [hany]; rfl
    have HST := Lib.hid hst
    clear hany hst
    go_wp2_with fail
    refine wp_region_held_drew (S := fun V => V.cell? ⟨w.heap.size, 0, none⟩ = some (.slice la l.length lc)) (by kernel_rfl) (by rw [World.cell?_drew, cell_of_row _ _ _ _ _ _ HKB2.out]; rfl) (fun hHeld => ?_)
    change wpAnyH _ _ foundAOps _ _ _ _ _ _
    refine abs_anyHS (fun V => Below w.heap.size w V ∧ WayAt p most bv (.slice ra p.rules.length rc) qp qm B base V ∧ V.heap[qo]? = some (.cells #[.slice oa ss.length oc] 29 (0, 0)) ∧ SOwn V base (.slice oa ss.length oc) ss ∧ w.heap.size < V.heap.size)
      ⟨Below.drewn HBW.out, HW2.out.below hBb (Below.drewn (Below.refl _ _)), HKO2.out, HSO2.out.ck (CK.below (Below.drewn (Below.refl _ _))), by show w.heap.size < w2.heap.size; omega⟩ hHeld ?_
    clear hHeld HW2 HKO2 HSO2 HBW HKB2
    rintro V ⟨hbv, hwv, hkv, hsv, zV⟩ hHeld
    have hluv := ownsRow_us (own_ck HLV.out (CK.below hbv)) (by omega) rfl
    have HLUV := Lib.hid hluv; have HBV := Lib.hid hbv; have HWV := Lib.hid hwv; have HKV := Lib.hid hkv; have HSV := Lib.hid hsv
    have hbaV := hwv.base
    clear hluv hbv hwv hkv hsv
    refine wpAnyH_take (i := 1) (oi := { dst := some 12, op := Op.load 35 (Operand.tmp 4), type := 35, pos := "outright.go:206", after := #[], guard := none }) (v := ?_) rfl (by kernel_rfl) (by kernel_rfl) (by kernel_rfl) (fun _ _ _ h => h) (Or.inl ⟨by kernel_rfl, ?_⟩) hHeld ?_
    rotate_left
    · intro w hSw
      try dsimp only at hSw
      go_simp
      try with_reducible rfl
    try simp only [Act.put, List.setIfInBounds_toArray, List.set_cons_zero, List.set_cons_succ]
    refine wpAnyH_ready (rs := [0, 2]) (by kernel_rfl) (by simp) ?_
    refine AllReadyH.cons (o := { dst := some 11, op := Op.load 29 (Operand.tmp 2), type := 29, pos := "outright.go:206", after := #[], guard := none }) rfl (fun K hK => ?_) (AllReadyH.cons (o := { dst := some 13, op := Op.call { callee := Callee.value (Operand.func 30), args := #[Operand.tmp 12], argTypes := #[35] }, type := 35, pos := "outright.go:206", after := #[{ on := 1, ground := Ground.data }], guard := none }) rfl (fun K hK => ?_) AllReadyH.nil)
    · have o0 : V.cell? ⟨qo, 0, none⟩ = some (.slice oa ss.length oc) := by rw [cell_of_row _ _ _ _ _ _ HKV.out]; rfl
      go_simp
      refine hK.out _ _ (hHeld) (fun hHeld => ?_)
      clear hK K
      try simp only [Act.put, List.setIfInBounds_toArray, List.set_cons_zero, List.set_cons_succ]
      clear o0
      refine wpAnyH_ready (rs := [2]) (by kernel_rfl) (by simp) ?_
      refine AllReadyH.cons (o := { dst := some 13, op := Op.call { callee := Callee.value (Operand.func 30), args := #[Operand.tmp 12], argTypes := #[35] }, type := 35, pos := "outright.go:206", after := #[{ on := 1, ground := Ground.data }], guard := none }) rfl (fun K hK => ?_) AllReadyH.nil
      go_simp
      refine (clone_us l _ V HLUV.out (by omega) (by omega)).mono ?_
      rintro e1 V1 ⟨g, cc, rfl, hown1, hb1⟩
      go_wp2_with fail
      have held1 : V1.cell? ⟨w.heap.size, 0, none⟩ = some (.slice la l.length lc) := (hb1.cell (p := ⟨w.heap.size, 0, none⟩) zV).trans hHeld
      refine hK.out _ _ (held1) (fun hHeld => ?_)
      clear hK K
      try simp only [Act.put, List.setIfInBounds_toArray, List.set_cons_zero, List.set_cons_succ]
      have KO1 := Lib.hid (heap_later HKV.out hb1 (Array.getElem?_eq_some_iff.1 HKV.out).1); have HO1 := Lib.hid hown1; have HB1 := Lib.hid hb1
      have z1 := hb1.size
      clear held1 hown1 hb1
      refine wpAnyH_ready (rs := [3]) (by kernel_rfl) (by simp) ?_
      refine AllReadyH.cons (o := { dst := some 14, op := Op.buildSlice 29 1 #[(0, Operand.tmp 13)], type := 29, pos := "outright.go:206", after := #[{ on := 2, ground := Ground.data }], guard := none }) rfl (fun K hK => ?_) AllReadyH.nil
      go_simp
      refine hK.out _ _ (((Below.new1 V1 (.cells #[.slice (some ⟨g, 0, none⟩) l.length cc] 35)).cell (p := ⟨w.heap.size, 0, none⟩) (by show w.heap.size < V1.heap.size; omega)).trans hHeld) (fun hHeld => ?_)
      clear hK K
      try simp only [Act.put, List.setIfInBounds_toArray, List.set_cons_zero, List.set_cons_succ]
      refine abs_anyHS (fun Z => Below V1.heap.size V1 Z ∧ Z.heap[V1.heap.size]? = some (.cells #[.slice (some ⟨g, 0, none⟩) l.length cc] 35 (0, 0))) ⟨Below.new1 _ _, heap_new0 _ _⟩ hHeld ?_
      clear hHeld
      rintro X1 ⟨hbx, kx⟩ hHeld
      have KOX := Lib.hid (heap_later KO1.out hbx (Array.getElem?_eq_some_iff.1 KO1.out).1)
      have KX := Lib.hid kx; have HBX := Lib.hid hbx
      have zx := hbx.size
      clear hbx kx
      refine wpAnyH_ready (rs := [4]) (by kernel_rfl) (by simp) ?_
      refine AllReadyH.cons (o := { dst := some 15, op := Op.call { callee := Callee.builtin Builtin.append, args := #[Operand.tmp 11, Operand.tmp 14], argTypes := #[29, 29] }, type := 29, pos := "outright.go:206", after := #[{ on := 0, ground := Ground.data }, { on := 3, ground := Ground.data }, { on := 2, ground := Ground.chain }], guard := none }) rfl (fun K hK => ?_) AllReadyH.nil
      rw [if_pos (by rfl)]
      obtain ⟨cs, hcs, hcr⟩ := HSV.out
      have hck := (CK.below HB1.out).trans (CK.below HBX.out)
      have hcs1 := own_ck hcs hck
      obtain ⟨j0, jin, jz0, jz1, jz2⟩ := info_parts Tryz.infoUU
      refine wp_append_own X1 _ _ 29 rfl base 35 j0 (.slice none 0 0) 1 24 Tryz.underlying29 jin jz0 jz1 jz2 rfl (by decide) (.slice oa ss.length oc) ss.length cs rfl hcs1 ⟨V1.heap.size, 0, none⟩ 1 1 [.slice (some ⟨g, 0, none⟩) l.length cc] rfl rfl ?_ ?_ (by unfold maxLen; omega) (by omega) (by omega) ?_
      · intro q u hq
        rw [Addr.add_lit, Nat.zero_add, cell_of_row _ _ _ _ _ _ KX.out, List.getElem?_toArray]; exact hq
      · intro u hu
        simp only [List.mem_cons, List.not_mem_nil, or_false] at hu
        rcases hu with rfl; rfl
      intro v' X2 hown2 hgrow2 _
      obtain ⟨g5, cp, rfl⟩ := Slice.own_succ hown2
      have hKO := KOX.out
      have ko2 := (hgrow2.block qo (Array.getElem?_eq_some_iff.1 hKO).1 (fun hh => own_apart hcs1 hKO (by decide) _ hh.symm rfl)).trans hKO
      have held2 : X2.cell? ⟨w.heap.size, 0, none⟩ = some (.slice la l.length lc) := (World.cell?_of_block (a := ⟨w.heap.size, 0, none⟩) (hgrow2.block w.heap.size (by omega) (fun hh => by have := HLT.out _ hh.symm; omega))).trans hHeld
      have hy1 : X1.ownsRow base 38 1 (.slice (some ⟨g, 0, none⟩) l.length cc) l.length (natsV l) := own_mono (own_ck HO1.out (CK.below HBX.out)) (by omega)
      have hso2 : SOwn X2 base (.slice (some ⟨g5, 0, none⟩) (ss.length + 1) cp) (ss ++ [l]) := SOwn.appended hcs1 hgrow2 (fun i hi => by
        obtain ⟨yv, e5, e6⟩ := hcr i hi
        exact ⟨yv, e5, own_ck e6 hck⟩) hy1 hown2
      have hkp2 : KeptT 35 (One qo) base w X2 := ((((KeptT.of_below HBV.out).below HB1.out).below HBX.out)).grown hcs1 hgrow2
      have hmm1 := heap_later (heap_later HWV.out.mm HB1.out (Array.getElem?_eq_some_iff.1 HWV.out.mm).1) HBX.out (Array.getElem?_eq_some_iff.1 (heap_later HWV.out.mm HB1.out (Array.getElem?_eq_some_iff.1 HWV.out.mm).1)).1
      have hmm2 := (hgrow2.block qm (Array.getElem?_eq_some_iff.1 hmm1).1 (fun hh => own_apart hcs1 hmm1 (by decide) _ hh.symm rfl)).trans hmm1
      obtain ⟨n, hn⟩ : ∃ n, n = ss.length + 1 := ⟨_, rfl⟩
      rw [← hn] at hso2 ⊢
      refine hK.out _ _ (held2) (fun hHeld => ?_)
      clear hK K
      try simp only [Act.put, List.setIfInBounds_toArray, List.set_cons_zero, List.set_cons_succ]
      have o2 : X2.cell? ⟨qo, 0, none⟩ = some (.slice oa ss.length oc) := by rw [cell_of_row _ _ _ _ _ _ ko2]; rfl
      have o2f : X2.frozen? ⟨qo, 0, none⟩ = false := by simp [World.frozen?, ko2]
      have KO2 := Lib.hid ko2; have HSO2 := Lib.hid hso2; have HKP2 := Lib.hid hkp2; have HMM2 := Lib.hid hmm2; have HN := Lib.hid hn
      clear hown2 hgrow2 hcs hcr hck hcs1 hKO ko2 hy1 hso2 hkp2 hmm1 hmm2 hn held2
      refine wpAnyH_ready (rs := [5]) (by kernel_rfl) (by simp) ?_
      refine AllReadyH.cons (o := { dst := none, op := Op.store 29 (Operand.tmp 2) (Operand.tmp 15), type := 0, pos := "outright.go:206", after := #[{ on := 4, ground := Ground.data }, { on := 4, ground := Ground.chain }, { on := 0, ground := Ground.phase }, { on := 1, ground := Ground.phase }, { on := 2, ground := Ground.phase }, { on := 3, ground := Ground.phase }, { on := 4, ground := Ground.phase }], guard := none }) rfl (fun K hK => ?_) AllReadyH.nil
      go_simp
      have hqw : qo ≠ w.heap.size := by omega
      refine hK.out _ _ ((World.cell?_of_block (a := ⟨w.heap.size, 0, none⟩) (Below.heap_setCell _ ⟨qo, 0, none⟩ _ _ (Ne.symm hqw))).trans hHeld) (fun hHeld => ?_)
      clear hK K
      try simp only [Act.put, List.setIfInBounds_toArray, List.set_cons_zero, List.set_cons_succ]
      refine wpAnyH_done (by kernel_rfl) ?_ _
      clear hHeld o2 o2f
      have hko3 : (X2.setCell ⟨qo, 0, none⟩ (.slice (some ⟨g5, 0, none⟩) n cp)).heap[qo]? = some (.cells #[.slice (some ⟨g5, 0, none⟩) n cp] 29 (0, 0)) := by
        simp only [World.setCell, Array.getElem?_modify, if_true, KO2.out, Option.map_some]; rfl
      have hmo : qm ≠ qo := fun h => by subst h; have h1 := HMM2.out; rw [KO2.out] at h1; cases h1
      refine abs_post (fun Z => Z.heap[qo]? = some (.cells #[.slice (some ⟨g5, 0, none⟩) n cp] 29 (0, 0)) ∧ SOwn Z base (.slice (some ⟨g5, 0, none⟩) n cp) (ss ++ [l]) ∧ KeptT 35 (One qo) base w Z ∧ Z.heap[qm]? = some (.cells #[.int .i64 most] 3 (0, 0)))
        ⟨hko3, HSO2.out.setCell KO2.out (by decide) (by decide), HKP2.out.setCell (show One qo qo from rfl) _, (Below.heap_setCell _ _ _ _ hmo).trans HMM2.out⟩ ?_
      clear hko3 hmo KO2 HSO2 HKP2 HMM2 KOX KO1 KX HBX HB1 HO1 HKV HSV HWV HBV HLUV
      rintro Z ⟨ko, hso, hkp, hmm⟩
      have o0 : Z.cell? ⟨qo, 0, none⟩ = some (.slice (some ⟨g5, 0, none⟩) n cp) := by rw [cell_of_row _ _ _ _ _ _ ko]; rfl
      have m0 : Z.cell? ⟨qm, 0, none⟩ = some (.int .i64 most) := by rw [cell_of_row _ _ _ _ _ _ hmm]; rfl
      have KO := Lib.hid ko; have HSO := Lib.hid hso; have HKP := Lib.hid hkp
      clear ko hso hkp hmm
      go_wp2
      go_ret
      rw [HST.out]
      exact ⟨by rw [List.length_append, List.length_singleton, ← HN.out]; rfl, ⟨_, KO.out, HSO.out⟩, HKP.out⟩
    · go_simp
      refine (clone_us l _ V HLUV.out (by omega) (by omega)).mono ?_
      rintro e1 V1 ⟨g, cc, rfl, hown1, hb1⟩
      go_wp2_with fail
      have held1 : V1.cell? ⟨w.heap.size, 0, none⟩ = some (.slice la l.length lc) := (hb1.cell (p := ⟨w.heap.size, 0, none⟩) zV).trans hHeld
      refine hK.out _ _ (held1) (fun hHeld => ?_)
      clear hK K
      try simp only [Act.put, List.setIfInBounds_toArray, List.set_cons_zero, List.set_cons_succ]
      have KO1 := Lib.hid (heap_later HKV.out hb1 (Array.getElem?_eq_some_iff.1 HKV.out).1); have HO1 := Lib.hid hown1; have HB1 := Lib.hid hb1
      have z1 := hb1.size
      clear held1 hown1 hb1
      refine wpAnyH_ready (rs := [0, 3]) (by kernel_rfl) (by simp) ?_
      refine AllReadyH.cons (o := { dst := some 11, op := Op.load 29 (Operand.tmp 2), type := 29, pos := "outright.go:206", after := #[], guard := none }) rfl (fun K hK => ?_) (AllReadyH.cons (o := { dst := some 14, op := Op.buildSlice 29 1 #[(0, Operand.tmp 13)], type := 29, pos := "outright.go:206", after := #[{ on := 2, ground := Ground.data }], guard := none }) rfl (fun K hK => ?_) AllReadyH.nil)
      · have o0 : V1.cell? ⟨qo, 0, none⟩ = some (.slice oa ss.length oc) := by rw [cell_of_row _ _ _ _ _ _ KO1.out]; rfl
        go_simp
        refine hK.out _ _ (hHeld) (fun hHeld => ?_)
        clear hK K
        try simp only [Act.put, List.setIfInBounds_toArray, List.set_cons_zero, List.set_cons_succ]
        clear o0
        refine wpAnyH_ready (rs := [3]) (by kernel_rfl) (by simp) ?_
        refine AllReadyH.cons (o := { dst := some 14, op := Op.buildSlice 29 1 #[(0, Operand.tmp 13)], type := 29, pos := "outright.go:206", after := #[{ on := 2, ground := Ground.data }], guard := none }) rfl (fun K hK => ?_) AllReadyH.nil
        go_simp
        refine hK.out _ _ (((Below.new1 V1 (.cells #[.slice (some ⟨g, 0, none⟩) l.length cc] 35)).cell (p := ⟨w.heap.size, 0, none⟩) (by show w.heap.size < V1.heap.size; omega)).trans hHeld) (fun hHeld => ?_)
        clear hK K
        try simp only [Act.put, List.setIfInBounds_toArray, List.set_cons_zero, List.set_cons_succ]
        refine abs_anyHS (fun Z => Below V1.heap.size V1 Z ∧ Z.heap[V1.heap.size]? = some (.cells #[.slice (some ⟨g, 0, none⟩) l.length cc] 35 (0, 0))) ⟨Below.new1 _ _, heap_new0 _ _⟩ hHeld ?_
        clear hHeld
        rintro X1 ⟨hbx, kx⟩ hHeld
        have KOX := Lib.hid (heap_later KO1.out hbx (Array.getElem?_eq_some_iff.1 KO1.out).1)
        have KX := Lib.hid kx; have HBX := Lib.hid hbx
        have zx := hbx.size
        clear hbx kx
        refine wpAnyH_ready (rs := [4]) (by kernel_rfl) (by simp) ?_
        refine AllReadyH.cons (o := { dst := some 15, op := Op.call { callee := Callee.builtin Builtin.append, args := #[Operand.tmp 11, Operand.tmp 14], argTypes := #[29, 29] }, type := 29, pos := "outright.go:206", after := #[{ on := 0, ground := Ground.data }, { on := 3, ground := Ground.data }, { on := 2, ground := Ground.chain }], guard := none }) rfl (fun K hK => ?_) AllReadyH.nil
        rw [if_pos (by rfl)]
        obtain ⟨cs, hcs, hcr⟩ := HSV.out
        have hck := (CK.below HB1.out).trans (CK.below HBX.out)
        have hcs1 := own_ck hcs hck
        obtain ⟨j0, jin, jz0, jz1, jz2⟩ := info_parts Tryz.infoUU
        refine wp_append_own X1 _ _ 29 rfl base 35 j0 (.slice none 0 0) 1 24 Tryz.underlying29 jin jz0 jz1 jz2 rfl (by decide) (.slice oa ss.length oc) ss.length cs rfl hcs1 ⟨V1.heap.size, 0, none⟩ 1 1 [.slice (some ⟨g, 0, none⟩) l.length cc] rfl rfl ?_ ?_ (by unfold maxLen; omega) (by omega) (by omega) ?_
        · intro q u hq
          rw [Addr.add_lit, Nat.zero_add, cell_of_row _ _ _ _ _ _ KX.out, List.getElem?_toArray]; exact hq
        · intro u hu
          simp only [List.mem_cons, List.not_mem_nil, or_false] at hu
          rcases hu with rfl; rfl
        intro v' X2 hown2 hgrow2 _
        obtain ⟨g5, cp, rfl⟩ := Slice.own_succ hown2
        have hKO := KOX.out
        have ko2 := (hgrow2.block qo (Array.getElem?_eq_some_iff.1 hKO).1 (fun hh => own_apart hcs1 hKO (by decide) _ hh.symm rfl)).trans hKO
        have held2 : X2.cell? ⟨w.heap.size, 0, none⟩ = some (.slice la l.length lc) := (World.cell?_of_block (a := ⟨w.heap.size, 0, none⟩) (hgrow2.block w.heap.size (by omega) (fun hh => by have := HLT.out _ hh.symm; omega))).trans hHeld
        have hy1 : X1.ownsRow base 38 1 (.slice (some ⟨g, 0, none⟩) l.length cc) l.length (natsV l) := own_mono (own_ck HO1.out (CK.below HBX.out)) (by omega)
        have hso2 : SOwn X2 base (.slice (some ⟨g5, 0, none⟩) (ss.length + 1) cp) (ss ++ [l]) := SOwn.appended hcs1 hgrow2 (fun i hi => by
          obtain ⟨yv, e5, e6⟩ := hcr i hi
          exact ⟨yv, e5, own_ck e6 hck⟩) hy1 hown2
        have hkp2 : KeptT 35 (One qo) base w X2 := ((((KeptT.of_below HBV.out).below HB1.out).below HBX.out)).grown hcs1 hgrow2
        have hmm1 := heap_later (heap_later HWV.out.mm HB1.out (Array.getElem?_eq_some_iff.1 HWV.out.mm).1) HBX.out (Array.getElem?_eq_some_iff.1 (heap_later HWV.out.mm HB1.out (Array.getElem?_eq_some_iff.1 HWV.out.mm).1)).1
        have hmm2 := (hgrow2.block qm (Array.getElem?_eq_some_iff.1 hmm1).1 (fun hh => own_apart hcs1 hmm1 (by decide) _ hh.symm rfl)).trans hmm1
        obtain ⟨n, hn⟩ : ∃ n, n = ss.length + 1 := ⟨_, rfl⟩
        rw [← hn] at hso2 ⊢
        refine hK.out _ _ (held2) (fun hHeld => ?_)
        clear hK K
        try simp only [Act.put, List.setIfInBounds_toArray, List.set_cons_zero, List.set_cons_succ]
        have o2 : X2.cell? ⟨qo, 0, none⟩ = some (.slice oa ss.length oc) := by rw [cell_of_row _ _ _ _ _ _ ko2]; rfl
        have o2f : X2.frozen? ⟨qo, 0, none⟩ = false := by simp [World.frozen?, ko2]
        have KO2 := Lib.hid ko2; have HSO2 := Lib.hid hso2; have HKP2 := Lib.hid hkp2; have HMM2 := Lib.hid hmm2; have HN := Lib.hid hn
        clear hown2 hgrow2 hcs hcr hck hcs1 hKO ko2 hy1 hso2 hkp2 hmm1 hmm2 hn held2
        refine wpAnyH_ready (rs := [5]) (by kernel_rfl) (by simp) ?_
        refine AllReadyH.cons (o := { dst := none, op := Op.store 29 (Operand.tmp 2) (Operand.tmp 15), type := 0, pos := "outright.go:206", after := #[{ on := 4, ground := Ground.data }, { on := 4, ground := Ground.chain }, { on := 0, ground := Ground.phase }, { on := 1, ground := Ground.phase }, { on := 2, ground := Ground.phase }, { on := 3, ground := Ground.phase }, { on := 4, ground := Ground.phase }], guard := none }) rfl (fun K hK => ?_) AllReadyH.nil
        go_simp
        have hqw : qo ≠ w.heap.size := by omega
        refine hK.out _ _ ((World.cell?_of_block (a := ⟨w.heap.size, 0, none⟩) (Below.heap_setCell _ ⟨qo, 0, none⟩ _ _ (Ne.symm hqw))).trans hHeld) (fun hHeld => ?_)
        clear hK K
        try simp only [Act.put, List.setIfInBounds_toArray, List.set_cons_zero, List.set_cons_succ]
        refine wpAnyH_done (by kernel_rfl) ?_ _
        clear hHeld o2 o2f
        have hko3 : (X2.setCell ⟨qo, 0, none⟩ (.slice (some ⟨g5, 0, none⟩) n cp)).heap[qo]? = some (.cells #[.slice (some ⟨g5, 0, none⟩) n cp] 29 (0, 0)) := by
          simp only [World.setCell, Array.getElem?_modify, if_true, KO2.out, Option.map_some]; rfl
        have hmo : qm ≠ qo := fun h => by subst h; have h1 := HMM2.out; rw [KO2.out] at h1; cases h1
        refine abs_post (fun Z => Z.heap[qo]? = some (.cells #[.slice (some ⟨g5, 0, none⟩) n cp] 29 (0, 0)) ∧ SOwn Z base (.slice (some ⟨g5, 0, none⟩) n cp) (ss ++ [l]) ∧ KeptT 35 (One qo) base w Z ∧ Z.heap[qm]? = some (.cells #[.int .i64 most] 3 (0, 0)))
          ⟨hko3, HSO2.out.setCell KO2.out (by decide) (by decide), HKP2.out.setCell (show One qo qo from rfl) _, (Below.heap_setCell _ _ _ _ hmo).trans HMM2.out⟩ ?_
        clear hko3 hmo KO2 HSO2 HKP2 HMM2 KOX KO1 KX HBX HB1 HO1 HKV HSV HWV HBV HLUV
        rintro Z ⟨ko, hso, hkp, hmm⟩
        have o0 : Z.cell? ⟨qo, 0, none⟩ = some (.slice (some ⟨g5, 0, none⟩) n cp) := by rw [cell_of_row _ _ _ _ _ _ ko]; rfl
        have m0 : Z.cell? ⟨qm, 0, none⟩ = some (.int .i64 most) := by rw [cell_of_row _ _ _ _ _ _ hmm]; rfl
        have KO := Lib.hid ko; have HSO := Lib.hid hso; have HKP := Lib.hid hkp
        clear ko hso hkp hmm
        go_wp2
        go_ret
        rw [HST.out]
        exact ⟨by rw [List.length_append, List.length_singleton, ← HN.out]; rfl, ⟨_, KO.out, HSO.out⟩, HKP.out⟩
      · go_simp
        refine hK.out _ _ (((Below.new1 V1 (.cells #[.slice (some ⟨g, 0, none⟩) l.length cc] 35)).cell (p := ⟨w.heap.size, 0, none⟩) (by show w.heap.size < V1.heap.size; omega)).trans hHeld) (fun hHeld => ?_)
        clear hK K
        try simp only [Act.put, List.setIfInBounds_toArray, List.set_cons_zero, List.set_cons_succ]
        refine abs_anyHS (fun Z => Below V1.heap.size V1 Z ∧ Z.heap[V1.heap.size]? = some (.cells #[.slice (some ⟨g, 0, none⟩) l.length cc] 35 (0, 0))) ⟨Below.new1 _ _, heap_new0 _ _⟩ hHeld ?_
        clear hHeld
        rintro X1 ⟨hbx, kx⟩ hHeld
        have KOX := Lib.hid (heap_later KO1.out hbx (Array.getElem?_eq_some_iff.1 KO1.out).1)
        have KX := Lib.hid kx; have HBX := Lib.hid hbx
        have zx := hbx.size
        clear hbx kx
        refine wpAnyH_ready (rs := [0]) (by kernel_rfl) (by simp) ?_
        refine AllReadyH.cons (o := { dst := some 11, op := Op.load 29 (Operand.tmp 2), type := 29, pos := "outright.go:206", after := #[], guard := none }) rfl (fun K hK => ?_) AllReadyH.nil
        have o0 : X1.cell? ⟨qo, 0, none⟩ = some (.slice oa ss.length oc) := by rw [cell_of_row _ _ _ _ _ _ KOX.out]; rfl
        go_simp
        refine hK.out _ _ (hHeld) (fun hHeld => ?_)
        clear hK K
        try simp only [Act.put, List.setIfInBounds_toArray, List.set_cons_zero, List.set_cons_succ]
        clear o0
        refine wpAnyH_ready (rs := [4]) (by kernel_rfl) (by simp) ?_
        refine AllReadyH.cons (o := { dst := some 15, op := Op.call { callee := Callee.builtin Builtin.append, args := #[Operand.tmp 11, Operand.tmp 14], argTypes := #[29, 29] }, type := 29, pos := "outright.go:206", after := #[{ on := 0, ground := Ground.data }, { on := 3, ground := Ground.data }, { on := 2, ground := Ground.chain }], guard := none }) rfl (fun K hK => ?_) AllReadyH.nil
        rw [if_pos (by rfl)]
        obtain ⟨cs, hcs, hcr⟩ := HSV.out
        have hck := (CK.below HB1.out).trans (CK.below HBX.out)
        have hcs1 := own_ck hcs hck
        obtain ⟨j0, jin, jz0, jz1, jz2⟩ := info_parts Tryz.infoUU
        refine wp_append_own X1 _ _ 29 rfl base 35 j0 (.slice none 0 0) 1 24 Tryz.underlying29 jin jz0 jz1 jz2 rfl (by decide) (.slice oa ss.length oc) ss.length cs rfl hcs1 ⟨V1.heap.size, 0, none⟩ 1 1 [.slice (some ⟨g, 0, none⟩) l.length cc] rfl rfl ?_ ?_ (by unfold maxLen; omega) (by omega) (by omega) ?_
        · intro q u hq
          rw [Addr.add_lit, Nat.zero_add, cell_of_row _ _ _ _ _ _ KX.out, List.getElem?_toArray]; exact hq
        · intro u hu
          simp only [List.mem_cons, List.not_mem_nil, or_false] at hu
          rcases hu with rfl; rfl
        intro v' X2 hown2 hgrow2 _
        obtain ⟨g5, cp, rfl⟩ := Slice.own_succ hown2
        have hKO := KOX.out
        have ko2 := (hgrow2.block qo (Array.getElem?_eq_some_iff.1 hKO).1 (fun hh => own_apart hcs1 hKO (by decide) _ hh.symm rfl)).trans hKO
        have held2 : X2.cell? ⟨w.heap.size, 0, none⟩ = some (.slice la l.length lc) := (World.cell?_of_block (a := ⟨w.heap.size, 0, none⟩) (hgrow2.block w.heap.size (by omega) (fun hh => by have := HLT.out _ hh.symm; omega))).trans hHeld
        have hy1 : X1.ownsRow base 38 1 (.slice (some ⟨g, 0, none⟩) l.length cc) l.length (natsV l) := own_mono (own_ck HO1.out (CK.below HBX.out)) (by omega)
        have hso2 : SOwn X2 base (.slice (some ⟨g5, 0, none⟩) (ss.length + 1) cp) (ss ++ [l]) := SOwn.appended hcs1 hgrow2 (fun i hi => by
          obtain ⟨yv, e5, e6⟩ := hcr i hi
          exact ⟨yv, e5, own_ck e6 hck⟩) hy1 hown2
        have hkp2 : KeptT 35 (One qo) base w X2 := ((((KeptT.of_below HBV.out).below HB1.out).below HBX.out)).grown hcs1 hgrow2
        have hmm1 := heap_later (heap_later HWV.out.mm HB1.out (Array.getElem?_eq_some_iff.1 HWV.out.mm).1) HBX.out (Array.getElem?_eq_some_iff.1 (heap_later HWV.out.mm HB1.out (Array.getElem?_eq_some_iff.1 HWV.out.mm).1)).1
        have hmm2 := (hgrow2.block qm (Array.getElem?_eq_some_iff.1 hmm1).1 (fun hh => own_apart hcs1 hmm1 (by decide) _ hh.symm rfl)).trans hmm1
        obtain ⟨n, hn⟩ : ∃ n, n = ss.length + 1 := ⟨_, rfl⟩
        rw [← hn] at hso2 ⊢
        refine hK.out _ _ (held2) (fun hHeld => ?_)
        clear hK K
        try simp only [Act.put, List.setIfInBounds_toArray, List.set_cons_zero, List.set_cons_succ]
        have o2 : X2.cell? ⟨qo, 0, none⟩ = some (.slice oa ss.length oc) := by rw [cell_of_row _ _ _ _ _ _ ko2]; rfl
        have o2f : X2.frozen? ⟨qo, 0, none⟩ = false := by simp [World.frozen?, ko2]
        have KO2 := Lib.hid ko2; have HSO2 := Lib.hid hso2; have HKP2 := Lib.hid hkp2; have HMM2 := Lib.hid hmm2; have HN := Lib.hid hn
        clear hown2 hgrow2 hcs hcr hck hcs1 hKO ko2 hy1 hso2 hkp2 hmm1 hmm2 hn held2
        refine wpAnyH_ready (rs := [5]) (by kernel_rfl) (by simp) ?_
        refine AllReadyH.cons (o := { dst := none, op := Op.store 29 (Operand.tmp 2) (Operand.tmp 15), type := 0, pos := "outright.go:206", after := #[{ on := 4, ground := Ground.data }, { on := 4, ground := Ground.chain }, { on := 0, ground := Ground.phase }, { on := 1, ground := Ground.phase }, { on := 2, ground := Ground.phase }, { on := 3, ground := Ground.phase }, { on := 4, ground := Ground.phase }], guard := none }) rfl (fun K hK => ?_) AllReadyH.nil
        go_simp
        have hqw : qo ≠ w.heap.size := by omega
        refine hK.out _ _ ((World.cell?_of_block (a := ⟨w.heap.size, 0, none⟩) (Below.heap_setCell _ ⟨qo, 0, none⟩ _ _ (Ne.symm hqw))).trans hHeld) (fun hHeld => ?_)
        clear hK K
        try simp only [Act.put, List.setIfInBounds_toArray, List.set_cons_zero, List.set_cons_succ]
        refine wpAnyH_done (by kernel_rfl) ?_ _
        clear hHeld o2 o2f
        have hko3 : (X2.setCell ⟨qo, 0, none⟩ (.slice (some ⟨g5, 0, none⟩) n cp)).heap[qo]? = some (.cells #[.slice (some ⟨g5, 0, none⟩) n cp] 29 (0, 0)) := by
          simp only [World.setCell, Array.getElem?_modify, if_true, KO2.out, Option.map_some]; rfl
        have hmo : qm ≠ qo := fun h => by subst h; have h1 := HMM2.out; rw [KO2.out] at h1; cases h1
        refine abs_post (fun Z => Z.heap[qo]? = some (.cells #[.slice (some ⟨g5, 0, none⟩) n cp] 29 (0, 0)) ∧ SOwn Z base (.slice (some ⟨g5, 0, none⟩) n cp) (ss ++ [l]) ∧ KeptT 35 (One qo) base w Z ∧ Z.heap[qm]? = some (.cells #[.int .i64 most] 3 (0, 0)))
          ⟨hko3, HSO2.out.setCell KO2.out (by decide) (by decide), HKP2.out.setCell (show One qo qo from rfl) _, (Below.heap_setCell _ _ _ _ hmo).trans HMM2.out⟩ ?_
        clear hko3 hmo KO2 HSO2 HKP2 HMM2 KOX KO1 KX HBX HB1 HO1 HKV HSV HWV HBV HLUV
        rintro Z ⟨ko, hso, hkp, hmm⟩
        have o0 : Z.cell? ⟨qo, 0, none⟩ = some (.slice (some ⟨g5, 0, none⟩) n cp) := by rw [cell_of_row _ _ _ _ _ _ ko]; rfl
        have m0 : Z.cell? ⟨qm, 0, none⟩ = some (.int .i64 most) := by rw [cell_of_row _ _ _ _ _ _ hmm]; rfl
        have KO := Lib.hid ko; have HSO := Lib.hid hso; have HKP := Lib.hid hkp
        clear ko hso hkp hmm
        go_wp2
        go_ret
        rw [HST.out]
        exact ⟨by rw [List.length_append, List.length_singleton, ← HN.out]; rfl, ⟨_, KO.out, HSO.out⟩, HKP.out⟩
end Go.Proofs.YtilbbnjfaoldoaaGreatDoor
