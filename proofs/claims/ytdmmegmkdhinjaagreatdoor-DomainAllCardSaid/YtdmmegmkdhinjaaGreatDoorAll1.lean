/- The law's own search of DomainAll: one way. -/
import Derived.Test.YtdmmegmkdhinjaaGreatDoorSortP
import Derived.Test.YtdmmegmkdhinjaaGreatDoorDBest
import Derived.Test.YtdmmegmkdhinjaaGreatDoorChosen
namespace Go.Proofs.YtdmmegmkdhinjaaGreatDoor
open Go Go.RowKit
attribute [local go_sem] cell_grow u64_sAnd u64_sOr u64_sDiff sDiff_all zeqI zneI sAnd_bit_zero sAnd_bit_zeroN sAnd_bit_nonzero

/-- What the law's search needs of memory. -/
structure AllAt (p : Dp) (dv rv : Value) (qp B base : Nat) (w : World) : Prop where
  doms : Us w B dv p.doms
  rls : DRls w B rv p.rules
  pp : w.heap[qp]? = some (.cells #[dv, rv] 25 (0, 0))
  base : base ≤ w.heap.size
/-- What it has found, in its variable. -/
def OutZ (w : World) (qo base : Nat) (ss : List (List Int)) : Prop := ∃ ov, w.heap[qo]? = some (.cells #[ov] 46 (0, 0)) ∧ LOwn w base ov ss
theorem AllAt.kept {p : Dp} {dv rv : Value} {qp qo B base : Nat} {w w' : World} {c : Array Value} (h : AllAt p dv rv qp B base w) (ho : w.heap[qo]? = some (.cells c 46 (0, 0))) (hB : B ≤ qo) (hBb : B ≤ base) (hk : KeptT 39 (One qo) base w w') : AllAt p dv rv qp B base w' := by
  have hol : qo < w.heap.size := (Array.getElem?_eq_some_iff.1 ho).1
  have hlow : Below B w w' := hk.toBelow hBb (by omega) (fun q hq h => by unfold One at h; omega)
  have key : ∀ (q : Nat) (c' : Array Value) (t : TypeId), w.heap[q]? = some (.cells c' t (0, 0)) → t ≠ 46 → t ≠ 39 → w'.heap[q]? = some (.cells c' t (0, 0)) := fun q c' t e h1 h2 =>
    hk.same q _ e (fun hh => by unfold One at hh; subst hh; rw [ho] at e; cases e; exact h1 rfl) (.inr (nT h2))
  exact ⟨h.doms.below hlow (Nat.le_refl _), h.rls.below hlow (Nat.le_refl _), key _ _ _ h.pp (by decide) (by decide), Nat.le_trans h.base hk.size⟩
theorem AllAt.below {p : Dp} {dv rv : Value} {qp B base : Nat} {w w' : World} (h : AllAt p dv rv qp B base w) (hB : B ≤ base) (hb : Below w.heap.size w w') : AllAt p dv rv qp B base w' :=
  ⟨h.doms.below hb (Nat.le_trans hB h.base), h.rls.below hb (Nat.le_trans hB h.base), heap_later h.pp hb (Array.getElem?_eq_some_iff.1 h.pp).1, Nat.le_trans h.base hb.size⟩
theorem OutZ.below {w w' : World} {qo base : Nat} {ss : List (List Int)} (h : OutZ w qo base ss) (hb : Below w.heap.size w w') : OutZ w' qo base ss := by
  obtain ⟨ov, h1, h2⟩ := h
  exact ⟨ov, heap_later h1 hb (Array.getElem?_eq_some_iff.1 h1).1, h2.ck (CK.below hb)⟩
/-- A row of ints of its own stays. -/
theorem own_keptI {w w' : World} {qo base : Nat} {lv : Value} {n : Nat} {xs : List Value} {c : Array Value} (h : w.ownsRow 0 3 1 lv n xs) (ho : w.heap[qo]? = some (.cells c 46 (0, 0))) (hk : KeptT 39 (One qo) base w w') : w'.ownsRow 0 3 1 lv n xs :=
  own_type h fun k c' e => hk.same k _ e (fun hh => by unfold One at hh; subst hh; rw [ho] at e; simp only [Option.some.injEq, Obj.cells.injEq] at e; exact absurd e.2.1 (by decide)) (.inr (nT (by decide)))

def allAOps : Array Oper := #[
  { dst := some 8, op := Op.load 46 (Operand.tmp 2), type := 46, pos := "outright.go:220", after := #[], guard := none },
  { dst := some 9, op := Op.move (Operand.tmp 0), type := 39, pos := "outright.go:220", after := #[], guard := none },
  { dst := some 10, op := Op.call { callee := Callee.value (Operand.func 32), args := #[Operand.tmp 9], argTypes := #[39] }, type := 39, pos := "outright.go:220", after := #[{ on := 1, ground := Ground.data }], guard := none },
  { dst := some 11, op := Op.buildSlice 46 1 #[(0, Operand.tmp 10)], type := 46, pos := "outright.go:220", after := #[{ on := 2, ground := Ground.data }], guard := none },
  { dst := some 12, op := Op.call { callee := Callee.builtin Builtin.append, args := #[Operand.tmp 8, Operand.tmp 11], argTypes := #[46, 46] }, type := 46, pos := "outright.go:220", after := #[{ on := 0, ground := Ground.data }, { on := 3, ground := Ground.data }, { on := 2, ground := Ground.chain }], guard := none },
  { dst := none, op := Op.store 46 (Operand.tmp 2) (Operand.tmp 12), type := 0, pos := "outright.go:220", after := #[{ on := 4, ground := Ground.data }, { on := 4, ground := Ground.chain }, { on := 0, ground := Ground.phase }, { on := 1, ground := Ground.phase }, { on := 2, ground := Ground.phase }, { on := 3, ground := Ground.phase }, { on := 4, ground := Ground.phase }], guard := none }]
set_option maxRecDepth 100000 in
set_option maxHeartbeats 4000000 in
theorem all1_any (p : Dp) (hpo : probD p = true) (dv rv : Value) (qp qo B base : Nat) (hBb : B ≤ base) (vs : List Nat) (hi : InD p.doms vs) (ss : List (List Int)) (h200 : ss.length ≤ 200) (lv : Value) (w : World) (hw : AllAt p dv rv qp B base w)
    (hlv : w.ownsRow 0 3 1 lv vs.length (intsV (vs.map natI))) (hout : OutZ w qo base ss) :
    Calls Tryz.prog 30 #[lv, .pointer (some ⟨qp, 0, none⟩), .pointer (some ⟨qo, 0, none⟩)] w fun e w' =>
      e = .returned (.bool (decide (((stZ p ss vs).length : Int) ≤ 200))) ∧ OutZ w' qo base (stZ p ss vs) ∧ KeptT 39 (One qo) base w w' := by
  obtain ⟨ov, hko, hso⟩ := hout
  obtain ⟨oa, oc, rfl⟩ := hso.form
  have hn1 := (probD_parts hpo).1
  have hn8 := (probD_parts hpo).2.1
  obtain ⟨n, hn⟩ : ∃ n, n = vs.length := ⟨_, rfl⟩
  have hnd : n = p.doms.length := hn.trans hi.1
  rw [← hn] at hlv
  have hml : (vs.map natI).length = n := by rw [List.length_map]; exact hn.symm
  obtain ⟨lb, lc, cur, rfl, -, hlb, -, -, -⟩ := own_some hlv (by omega)
  obtain ⟨da, dc, rfl⟩ := hw.doms.slice
  obtain ⟨ra, rc, rfl⟩ := hw.rls.slice
  have hol : qo < w.heap.size := (Array.getElem?_eq_some_iff.1 hko).1
  have hpl : qp < w.heap.size := (Array.getElem?_eq_some_iff.1 hw.pp).1
  have p0 : w.cell? ⟨qp, 0, none⟩ = some (.slice da p.doms.length dc) := by rw [cell_of_row _ _ _ _ _ _ hw.pp]; rfl
  have p1 : w.cell? ⟨qp, 1, none⟩ = some (.slice ra p.rules.length rc) := by rw [cell_of_row _ _ _ _ _ _ hw.pp]; rfl
  have hlu := ownsRow_ints hlv (by omega) hml
  have hhold := lawHolds_any p (vs.map natI) hpo ⟨hml.trans hnd, fun i => by
    rw [iget_nat]
    have := nget_lt16 (inD_lt hi (probD_parts hpo).2.2.2.1) i
    omega⟩ (.slice da p.doms.length dc) (.slice ra p.rules.length rc) (.slice (some ⟨lb, 0, none⟩) n lc) w (B := w.heap.size) (hw.doms.mono (Nat.le_trans hBb hw.base)) (hw.rls.mono (Nat.le_trans hBb hw.base)) hlu (Nat.le_refl _)
  have HHOLD := Lib.hid hhold; have HLV := Lib.hid hlv; have HN := Lib.hid hml
  have HSO := Lib.hid hso; have HKO := Lib.hid hko; have HW := Lib.hid hw
  have hbase := hw.base
  have HND := Lib.hid hnd
  have hn1n : 0 < n := by omega
  have hn8n : n ≤ 8 := by omega
  clear hhold hlu hlv hso hko hpo hw hlb hi hml hn hnd
  go_enter Tryz.func30, Tryz.ntmps30
  go_wp2_with fail
  refine HHOLD.out.mono ?_
  rintro e w2 ⟨rfl, hb2⟩
  have hsz2 := hb2.size
  have HKO2 := Lib.hid (heap_later HKO.out hb2 hol); have HSO2 := Lib.hid (HSO.out.ck (CK.below hb2)); have HBW := Lib.hid hb2
  have HLV2 := Lib.hid (own_ck HLV.out (CK.below hb2))
  clear hb2 HHOLD HKO HSO HLV HW p0 p1
  cases hah : allHold p (vs.map natI)
  case false =>
    have hst : stZ p ss vs = ss := by unfold stZ; rw [hah]; rfl
    have HST := Lib.hid hst
    clear hah hst
    have o0 : w2.cell? ⟨qo, 0, none⟩ = some (.slice oa ss.length oc) := by rw [cell_of_row _ _ _ _ _ _ HKO2.out]; rfl
    go_wp2
    go_ret
    rw [HST.out]
    exact ⟨rfl, ⟨_, HKO2.out, HSO2.out⟩, KeptT.of_below HBW.out⟩
  case true =>
    have hst : stZ p ss vs = ss ++ [vs.map natI] := by unfold stZ; rw [hah]; rfl
    have HST := Lib.hid hst
    clear hah hst
    go_wp2_with fail
    refine wp_region_held_drew (S := fun _ => True) (by kernel_rfl) trivial (fun hHeld => ?_)
    change wpAnyH _ _ allAOps _ _ _ _ _ _
    refine abs_anyHS (fun V => Below w.heap.size w V ∧ V.heap[qo]? = some (.cells #[.slice oa ss.length oc] 46 (0, 0)) ∧ LOwn V base (.slice oa ss.length oc) ss ∧ V.ownsRow 0 3 1 (.slice (some ⟨lb, 0, none⟩) n lc) n (intsV (vs.map natI)))
      ⟨Below.drewn HBW.out, HKO2.out, HSO2.out.ck (CK.below (Below.drewn (Below.refl _ _))), own_ck HLV2.out (CK.below (Below.drewn (Below.refl _ _)))⟩ hHeld ?_
    clear hHeld HKO2 HSO2 HBW HLV2
    rintro V ⟨hbv, hkv, hsv, hlv⟩ hHeld
    have HLUV := Lib.hid (ownsRow_ints hlv (by omega) HN.out); have HBV := Lib.hid hbv; have HKV := Lib.hid hkv; have HSV := Lib.hid hsv
    have hbaV := Nat.le_trans hbase hbv.size
    have hlvV : lc ≤ maxLen ∧ n ≤ lc := by
      rcases hlv.2 with ⟨h, _⟩ | ⟨g', cap', cur', h, _, _, h1, h2, _⟩
      · cases h
      · cases h; exact ⟨h2, h1⟩
    clear hbv hkv hsv hlv
    refine wpAnyH_take (i := 1) (oi := { dst := some 9, op := Op.move (Operand.tmp 0), type := 39, pos := "outright.go:220", after := #[], guard := none }) (v := ?_) rfl (by kernel_rfl) (by kernel_rfl) (by kernel_rfl) (fun _ _ _ h => h) (Or.inl ⟨by kernel_rfl, ?_⟩) hHeld ?_
    rotate_left
    · intro w hSw
      clear hSw
      go_simp
      try with_reducible rfl
    try simp only [Act.put, List.setIfInBounds_toArray, List.set_cons_zero, List.set_cons_succ]
    refine wpAnyH_ready (rs := [0, 2]) (by kernel_rfl) (by simp) ?_
    refine AllReadyH.cons (o := { dst := some 8, op := Op.load 46 (Operand.tmp 2), type := 46, pos := "outright.go:220", after := #[], guard := none }) rfl (fun K hK => ?_) (AllReadyH.cons (o := { dst := some 10, op := Op.call { callee := Callee.value (Operand.func 32), args := #[Operand.tmp 9], argTypes := #[39] }, type := 39, pos := "outright.go:220", after := #[{ on := 1, ground := Ground.data }], guard := none }) rfl (fun K hK => ?_) AllReadyH.nil)
    · have o0 : V.cell? ⟨qo, 0, none⟩ = some (.slice oa ss.length oc) := by rw [cell_of_row _ _ _ _ _ _ HKV.out]; rfl
      go_simp
      refine hK.out _ _ (trivial) (fun hHeld => ?_)
      clear hK K
      try simp only [Act.put, List.setIfInBounds_toArray, List.set_cons_zero, List.set_cons_succ]
      clear o0
      refine wpAnyH_ready (rs := [2]) (by kernel_rfl) (by simp) ?_
      refine AllReadyH.cons (o := { dst := some 10, op := Op.call { callee := Callee.value (Operand.func 32), args := #[Operand.tmp 9], argTypes := #[39] }, type := 39, pos := "outright.go:220", after := #[{ on := 1, ground := Ground.data }], guard := none }) rfl (fun K hK => ?_) AllReadyH.nil
      go_simp
      refine (clone_ints (vs.map natI) lb 0 n lc V HLUV.out (by rw [HN.out]; omega) (by omega)).mono ?_
      rintro e1 V1 ⟨yv, rfl, hown1, hb1⟩
      obtain ⟨g, cc, cur, rfl, hg1, -, -, -, -⟩ := own_some hown1 (by omega)
      go_wp2_with fail
      refine hK.out _ _ (trivial) (fun hHeld => ?_)
      clear hK K
      try simp only [Act.put, List.setIfInBounds_toArray, List.set_cons_zero, List.set_cons_succ]
      have KO1 := Lib.hid (heap_later HKV.out hb1 (Array.getElem?_eq_some_iff.1 HKV.out).1); have HO1 := Lib.hid hown1; have HB1 := Lib.hid hb1
      have z1 := hb1.size
      clear hown1 hb1
      refine wpAnyH_ready (rs := [3]) (by kernel_rfl) (by simp) ?_
      refine AllReadyH.cons (o := { dst := some 11, op := Op.buildSlice 46 1 #[(0, Operand.tmp 10)], type := 46, pos := "outright.go:220", after := #[{ on := 2, ground := Ground.data }], guard := none }) rfl (fun K hK => ?_) AllReadyH.nil
      go_simp
      refine hK.out _ _ (trivial) (fun hHeld => ?_)
      clear hK K
      try simp only [Act.put, List.setIfInBounds_toArray, List.set_cons_zero, List.set_cons_succ]
      refine abs_anyHS (fun Z => Below V1.heap.size V1 Z ∧ Z.heap[V1.heap.size]? = some (.cells #[.slice (some ⟨g, 0, none⟩) n cc] 39 (0, 0))) ⟨Below.new1 _ _, heap_new0 _ _⟩ hHeld ?_
      clear hHeld
      rintro X1 ⟨hbx, kx⟩ hHeld
      have KOX := Lib.hid (heap_later KO1.out hbx (Array.getElem?_eq_some_iff.1 KO1.out).1)
      have KX := Lib.hid kx; have HBX := Lib.hid hbx
      have zx := hbx.size
      clear hbx kx
      refine wpAnyH_ready (rs := [4]) (by kernel_rfl) (by simp) ?_
      refine AllReadyH.cons (o := { dst := some 12, op := Op.call { callee := Callee.builtin Builtin.append, args := #[Operand.tmp 8, Operand.tmp 11], argTypes := #[46, 46] }, type := 46, pos := "outright.go:220", after := #[{ on := 0, ground := Ground.data }, { on := 3, ground := Ground.data }, { on := 2, ground := Ground.chain }], guard := none }) rfl (fun K hK => ?_) AllReadyH.nil
      rw [if_pos (by rfl)]
      obtain ⟨cs, hcs, hcr⟩ := HSV.out
      have hck := (CK.below HB1.out).trans (CK.below HBX.out)
      have hcs1 := own_ck hcs hck
      obtain ⟨j0, jin, jz0, jz1, jz2⟩ := info_parts infoL
      refine wp_append_own X1 _ _ 46 rfl base 39 j0 (.slice none 0 0) 1 24 Tryz.underlying46 jin jz0 jz1 jz2 rfl (by decide) (.slice oa ss.length oc) ss.length cs rfl hcs1 ⟨V1.heap.size, 0, none⟩ 1 1 [.slice (some ⟨g, 0, none⟩) n cc] rfl rfl ?_ ?_ (by unfold maxLen; omega) (by omega) (by omega) ?_
      · intro q u hq
        rw [Addr.add_lit, Nat.zero_add, cell_of_row _ _ _ _ _ _ KX.out, List.getElem?_toArray]; exact hq
      · intro u hu
        simp only [List.mem_cons, List.not_mem_nil, or_false] at hu
        rcases hu with rfl; rfl
      intro v' X2 hown2 hgrow2 _
      obtain ⟨g5, cp, rfl⟩ := Slice.own_succ hown2
      have hKO := KOX.out
      have ko2 := (hgrow2.block qo (Array.getElem?_eq_some_iff.1 hKO).1 (fun hh => own_apart hcs1 hKO (by decide) _ hh.symm rfl)).trans hKO
      have hy1 : X1.ownsRow base 3 1 (.slice (some ⟨g, 0, none⟩) n cc) (vs.map natI).length (intsV (vs.map natI)) := by rw [HN.out]; exact own_mono (own_ck HO1.out (CK.below HBX.out)) (by omega)
      have hso2 : LOwn X2 base (.slice (some ⟨g5, 0, none⟩) (ss.length + 1) cp) (ss ++ [vs.map natI]) := LOwn.appended hcs1 hgrow2 (fun i hi => by
        obtain ⟨yv, e5, e6⟩ := hcr i hi
        exact ⟨yv, e5, own_ck e6 hck⟩) hy1 hown2
      have hkp2 : KeptT 39 (One qo) base w X2 := ((((KeptT.of_below HBV.out).below HB1.out).below HBX.out)).grown hcs1 hgrow2
      refine hK.out _ _ (trivial) (fun hHeld => ?_)
      clear hK K
      try simp only [Act.put, List.setIfInBounds_toArray, List.set_cons_zero, List.set_cons_succ]
      have o2 : X2.cell? ⟨qo, 0, none⟩ = some (.slice oa ss.length oc) := by rw [cell_of_row _ _ _ _ _ _ ko2]; rfl
      have o2f : X2.frozen? ⟨qo, 0, none⟩ = false := by simp [World.frozen?, ko2]
      have KO2 := Lib.hid ko2; have HSO2 := Lib.hid hso2; have HKP2 := Lib.hid hkp2
      clear hown2 hgrow2 hcs hcr hck hcs1 hKO ko2 hy1 hso2 hkp2
      refine wpAnyH_ready (rs := [5]) (by kernel_rfl) (by simp) ?_
      refine AllReadyH.cons (o := { dst := none, op := Op.store 46 (Operand.tmp 2) (Operand.tmp 12), type := 0, pos := "outright.go:220", after := #[{ on := 4, ground := Ground.data }, { on := 4, ground := Ground.chain }, { on := 0, ground := Ground.phase }, { on := 1, ground := Ground.phase }, { on := 2, ground := Ground.phase }, { on := 3, ground := Ground.phase }, { on := 4, ground := Ground.phase }], guard := none }) rfl (fun K hK => ?_) AllReadyH.nil
      go_simp
      refine hK.out _ _ (trivial) (fun hHeld => ?_)
      clear hK K
      try simp only [Act.put, List.setIfInBounds_toArray, List.set_cons_zero, List.set_cons_succ]
      refine wpAnyH_done (by kernel_rfl) ?_ _
      clear hHeld o2 o2f
      have hko3 := set_row (o := 0) (v := .slice (some ⟨g5, 0, none⟩) (ss.length + 1) cp) KO2.out
      have hlo4 : LOwn (X2.setCell ⟨qo, 0, none⟩ (.slice (some ⟨g5, 0, none⟩) (ss.length + 1) cp)) base (.slice (some ⟨g5, 0, none⟩) (ss.length + 1) cp) (ss ++ [vs.map natI]) := HSO2.out.typed fun k c t ht e => (Below.heap_setCell _ _ _ _ (ne_of_types e KO2.out (by rcases ht with rfl | rfl <;> decide))).trans e
      refine abs_post (fun Z => Z.heap[qo]? = some (.cells #[.slice (some ⟨g5, 0, none⟩) (ss.length + 1) cp] 46 (0, 0)) ∧ LOwn Z base (.slice (some ⟨g5, 0, none⟩) (ss.length + 1) cp) (ss ++ [vs.map natI]) ∧ KeptT 39 (One qo) base w Z)
        ⟨hko3, hlo4, HKP2.out.setCell (show One qo qo from rfl) _⟩ ?_
      clear hko3 hlo4 KO2 HSO2 HKP2 KOX KO1 KX HBX HB1 HO1 HKV HSV HBV HLUV
      rintro Z ⟨ko, hso, hkp⟩
      have o0 : Z.cell? ⟨qo, 0, none⟩ = some (.slice (some ⟨g5, 0, none⟩) (ss.length + 1) cp) := by rw [cell_of_row _ _ _ _ _ _ ko]; rfl
      have KO := Lib.hid ko; have HSO := Lib.hid hso; have HKP := Lib.hid hkp
      clear ko hso hkp
      go_wp2
      go_ret
      rw [HST.out]
      exact ⟨by rw [List.length_append, List.length_singleton]; rfl, ⟨_, KO.out, HSO.out⟩, HKP.out⟩
    · go_simp
      refine (clone_ints (vs.map natI) lb 0 n lc V HLUV.out (by rw [HN.out]; omega) (by omega)).mono ?_
      rintro e1 V1 ⟨yv, rfl, hown1, hb1⟩
      obtain ⟨g, cc, cur, rfl, hg1, -, -, -, -⟩ := own_some hown1 (by omega)
      go_wp2_with fail
      refine hK.out _ _ (trivial) (fun hHeld => ?_)
      clear hK K
      try simp only [Act.put, List.setIfInBounds_toArray, List.set_cons_zero, List.set_cons_succ]
      have KO1 := Lib.hid (heap_later HKV.out hb1 (Array.getElem?_eq_some_iff.1 HKV.out).1); have HO1 := Lib.hid hown1; have HB1 := Lib.hid hb1
      have z1 := hb1.size
      clear hown1 hb1
      refine wpAnyH_ready (rs := [0, 3]) (by kernel_rfl) (by simp) ?_
      refine AllReadyH.cons (o := { dst := some 8, op := Op.load 46 (Operand.tmp 2), type := 46, pos := "outright.go:220", after := #[], guard := none }) rfl (fun K hK => ?_) (AllReadyH.cons (o := { dst := some 11, op := Op.buildSlice 46 1 #[(0, Operand.tmp 10)], type := 46, pos := "outright.go:220", after := #[{ on := 2, ground := Ground.data }], guard := none }) rfl (fun K hK => ?_) AllReadyH.nil)
      · have o0 : V1.cell? ⟨qo, 0, none⟩ = some (.slice oa ss.length oc) := by rw [cell_of_row _ _ _ _ _ _ KO1.out]; rfl
        go_simp
        refine hK.out _ _ (trivial) (fun hHeld => ?_)
        clear hK K
        try simp only [Act.put, List.setIfInBounds_toArray, List.set_cons_zero, List.set_cons_succ]
        clear o0
        refine wpAnyH_ready (rs := [3]) (by kernel_rfl) (by simp) ?_
        refine AllReadyH.cons (o := { dst := some 11, op := Op.buildSlice 46 1 #[(0, Operand.tmp 10)], type := 46, pos := "outright.go:220", after := #[{ on := 2, ground := Ground.data }], guard := none }) rfl (fun K hK => ?_) AllReadyH.nil
        go_simp
        refine hK.out _ _ (trivial) (fun hHeld => ?_)
        clear hK K
        try simp only [Act.put, List.setIfInBounds_toArray, List.set_cons_zero, List.set_cons_succ]
        refine abs_anyHS (fun Z => Below V1.heap.size V1 Z ∧ Z.heap[V1.heap.size]? = some (.cells #[.slice (some ⟨g, 0, none⟩) n cc] 39 (0, 0))) ⟨Below.new1 _ _, heap_new0 _ _⟩ hHeld ?_
        clear hHeld
        rintro X1 ⟨hbx, kx⟩ hHeld
        have KOX := Lib.hid (heap_later KO1.out hbx (Array.getElem?_eq_some_iff.1 KO1.out).1)
        have KX := Lib.hid kx; have HBX := Lib.hid hbx
        have zx := hbx.size
        clear hbx kx
        refine wpAnyH_ready (rs := [4]) (by kernel_rfl) (by simp) ?_
        refine AllReadyH.cons (o := { dst := some 12, op := Op.call { callee := Callee.builtin Builtin.append, args := #[Operand.tmp 8, Operand.tmp 11], argTypes := #[46, 46] }, type := 46, pos := "outright.go:220", after := #[{ on := 0, ground := Ground.data }, { on := 3, ground := Ground.data }, { on := 2, ground := Ground.chain }], guard := none }) rfl (fun K hK => ?_) AllReadyH.nil
        rw [if_pos (by rfl)]
        obtain ⟨cs, hcs, hcr⟩ := HSV.out
        have hck := (CK.below HB1.out).trans (CK.below HBX.out)
        have hcs1 := own_ck hcs hck
        obtain ⟨j0, jin, jz0, jz1, jz2⟩ := info_parts infoL
        refine wp_append_own X1 _ _ 46 rfl base 39 j0 (.slice none 0 0) 1 24 Tryz.underlying46 jin jz0 jz1 jz2 rfl (by decide) (.slice oa ss.length oc) ss.length cs rfl hcs1 ⟨V1.heap.size, 0, none⟩ 1 1 [.slice (some ⟨g, 0, none⟩) n cc] rfl rfl ?_ ?_ (by unfold maxLen; omega) (by omega) (by omega) ?_
        · intro q u hq
          rw [Addr.add_lit, Nat.zero_add, cell_of_row _ _ _ _ _ _ KX.out, List.getElem?_toArray]; exact hq
        · intro u hu
          simp only [List.mem_cons, List.not_mem_nil, or_false] at hu
          rcases hu with rfl; rfl
        intro v' X2 hown2 hgrow2 _
        obtain ⟨g5, cp, rfl⟩ := Slice.own_succ hown2
        have hKO := KOX.out
        have ko2 := (hgrow2.block qo (Array.getElem?_eq_some_iff.1 hKO).1 (fun hh => own_apart hcs1 hKO (by decide) _ hh.symm rfl)).trans hKO
        have hy1 : X1.ownsRow base 3 1 (.slice (some ⟨g, 0, none⟩) n cc) (vs.map natI).length (intsV (vs.map natI)) := by rw [HN.out]; exact own_mono (own_ck HO1.out (CK.below HBX.out)) (by omega)
        have hso2 : LOwn X2 base (.slice (some ⟨g5, 0, none⟩) (ss.length + 1) cp) (ss ++ [vs.map natI]) := LOwn.appended hcs1 hgrow2 (fun i hi => by
          obtain ⟨yv, e5, e6⟩ := hcr i hi
          exact ⟨yv, e5, own_ck e6 hck⟩) hy1 hown2
        have hkp2 : KeptT 39 (One qo) base w X2 := ((((KeptT.of_below HBV.out).below HB1.out).below HBX.out)).grown hcs1 hgrow2
        refine hK.out _ _ (trivial) (fun hHeld => ?_)
        clear hK K
        try simp only [Act.put, List.setIfInBounds_toArray, List.set_cons_zero, List.set_cons_succ]
        have o2 : X2.cell? ⟨qo, 0, none⟩ = some (.slice oa ss.length oc) := by rw [cell_of_row _ _ _ _ _ _ ko2]; rfl
        have o2f : X2.frozen? ⟨qo, 0, none⟩ = false := by simp [World.frozen?, ko2]
        have KO2 := Lib.hid ko2; have HSO2 := Lib.hid hso2; have HKP2 := Lib.hid hkp2
        clear hown2 hgrow2 hcs hcr hck hcs1 hKO ko2 hy1 hso2 hkp2
        refine wpAnyH_ready (rs := [5]) (by kernel_rfl) (by simp) ?_
        refine AllReadyH.cons (o := { dst := none, op := Op.store 46 (Operand.tmp 2) (Operand.tmp 12), type := 0, pos := "outright.go:220", after := #[{ on := 4, ground := Ground.data }, { on := 4, ground := Ground.chain }, { on := 0, ground := Ground.phase }, { on := 1, ground := Ground.phase }, { on := 2, ground := Ground.phase }, { on := 3, ground := Ground.phase }, { on := 4, ground := Ground.phase }], guard := none }) rfl (fun K hK => ?_) AllReadyH.nil
        go_simp
        refine hK.out _ _ (trivial) (fun hHeld => ?_)
        clear hK K
        try simp only [Act.put, List.setIfInBounds_toArray, List.set_cons_zero, List.set_cons_succ]
        refine wpAnyH_done (by kernel_rfl) ?_ _
        clear hHeld o2 o2f
        have hko3 := set_row (o := 0) (v := .slice (some ⟨g5, 0, none⟩) (ss.length + 1) cp) KO2.out
        have hlo4 : LOwn (X2.setCell ⟨qo, 0, none⟩ (.slice (some ⟨g5, 0, none⟩) (ss.length + 1) cp)) base (.slice (some ⟨g5, 0, none⟩) (ss.length + 1) cp) (ss ++ [vs.map natI]) := HSO2.out.typed fun k c t ht e => (Below.heap_setCell _ _ _ _ (ne_of_types e KO2.out (by rcases ht with rfl | rfl <;> decide))).trans e
        refine abs_post (fun Z => Z.heap[qo]? = some (.cells #[.slice (some ⟨g5, 0, none⟩) (ss.length + 1) cp] 46 (0, 0)) ∧ LOwn Z base (.slice (some ⟨g5, 0, none⟩) (ss.length + 1) cp) (ss ++ [vs.map natI]) ∧ KeptT 39 (One qo) base w Z)
          ⟨hko3, hlo4, HKP2.out.setCell (show One qo qo from rfl) _⟩ ?_
        clear hko3 hlo4 KO2 HSO2 HKP2 KOX KO1 KX HBX HB1 HO1 HKV HSV HBV HLUV
        rintro Z ⟨ko, hso, hkp⟩
        have o0 : Z.cell? ⟨qo, 0, none⟩ = some (.slice (some ⟨g5, 0, none⟩) (ss.length + 1) cp) := by rw [cell_of_row _ _ _ _ _ _ ko]; rfl
        have KO := Lib.hid ko; have HSO := Lib.hid hso; have HKP := Lib.hid hkp
        clear ko hso hkp
        go_wp2
        go_ret
        rw [HST.out]
        exact ⟨by rw [List.length_append, List.length_singleton]; rfl, ⟨_, KO.out, HSO.out⟩, HKP.out⟩
      · go_simp
        refine hK.out _ _ (trivial) (fun hHeld => ?_)
        clear hK K
        try simp only [Act.put, List.setIfInBounds_toArray, List.set_cons_zero, List.set_cons_succ]
        refine abs_anyHS (fun Z => Below V1.heap.size V1 Z ∧ Z.heap[V1.heap.size]? = some (.cells #[.slice (some ⟨g, 0, none⟩) n cc] 39 (0, 0))) ⟨Below.new1 _ _, heap_new0 _ _⟩ hHeld ?_
        clear hHeld
        rintro X1 ⟨hbx, kx⟩ hHeld
        have KOX := Lib.hid (heap_later KO1.out hbx (Array.getElem?_eq_some_iff.1 KO1.out).1)
        have KX := Lib.hid kx; have HBX := Lib.hid hbx
        have zx := hbx.size
        clear hbx kx
        refine wpAnyH_ready (rs := [0]) (by kernel_rfl) (by simp) ?_
        refine AllReadyH.cons (o := { dst := some 8, op := Op.load 46 (Operand.tmp 2), type := 46, pos := "outright.go:220", after := #[], guard := none }) rfl (fun K hK => ?_) AllReadyH.nil
        have o0 : X1.cell? ⟨qo, 0, none⟩ = some (.slice oa ss.length oc) := by rw [cell_of_row _ _ _ _ _ _ KOX.out]; rfl
        go_simp
        refine hK.out _ _ (trivial) (fun hHeld => ?_)
        clear hK K
        try simp only [Act.put, List.setIfInBounds_toArray, List.set_cons_zero, List.set_cons_succ]
        clear o0
        refine wpAnyH_ready (rs := [4]) (by kernel_rfl) (by simp) ?_
        refine AllReadyH.cons (o := { dst := some 12, op := Op.call { callee := Callee.builtin Builtin.append, args := #[Operand.tmp 8, Operand.tmp 11], argTypes := #[46, 46] }, type := 46, pos := "outright.go:220", after := #[{ on := 0, ground := Ground.data }, { on := 3, ground := Ground.data }, { on := 2, ground := Ground.chain }], guard := none }) rfl (fun K hK => ?_) AllReadyH.nil
        rw [if_pos (by rfl)]
        obtain ⟨cs, hcs, hcr⟩ := HSV.out
        have hck := (CK.below HB1.out).trans (CK.below HBX.out)
        have hcs1 := own_ck hcs hck
        obtain ⟨j0, jin, jz0, jz1, jz2⟩ := info_parts infoL
        refine wp_append_own X1 _ _ 46 rfl base 39 j0 (.slice none 0 0) 1 24 Tryz.underlying46 jin jz0 jz1 jz2 rfl (by decide) (.slice oa ss.length oc) ss.length cs rfl hcs1 ⟨V1.heap.size, 0, none⟩ 1 1 [.slice (some ⟨g, 0, none⟩) n cc] rfl rfl ?_ ?_ (by unfold maxLen; omega) (by omega) (by omega) ?_
        · intro q u hq
          rw [Addr.add_lit, Nat.zero_add, cell_of_row _ _ _ _ _ _ KX.out, List.getElem?_toArray]; exact hq
        · intro u hu
          simp only [List.mem_cons, List.not_mem_nil, or_false] at hu
          rcases hu with rfl; rfl
        intro v' X2 hown2 hgrow2 _
        obtain ⟨g5, cp, rfl⟩ := Slice.own_succ hown2
        have hKO := KOX.out
        have ko2 := (hgrow2.block qo (Array.getElem?_eq_some_iff.1 hKO).1 (fun hh => own_apart hcs1 hKO (by decide) _ hh.symm rfl)).trans hKO
        have hy1 : X1.ownsRow base 3 1 (.slice (some ⟨g, 0, none⟩) n cc) (vs.map natI).length (intsV (vs.map natI)) := by rw [HN.out]; exact own_mono (own_ck HO1.out (CK.below HBX.out)) (by omega)
        have hso2 : LOwn X2 base (.slice (some ⟨g5, 0, none⟩) (ss.length + 1) cp) (ss ++ [vs.map natI]) := LOwn.appended hcs1 hgrow2 (fun i hi => by
          obtain ⟨yv, e5, e6⟩ := hcr i hi
          exact ⟨yv, e5, own_ck e6 hck⟩) hy1 hown2
        have hkp2 : KeptT 39 (One qo) base w X2 := ((((KeptT.of_below HBV.out).below HB1.out).below HBX.out)).grown hcs1 hgrow2
        refine hK.out _ _ (trivial) (fun hHeld => ?_)
        clear hK K
        try simp only [Act.put, List.setIfInBounds_toArray, List.set_cons_zero, List.set_cons_succ]
        have o2 : X2.cell? ⟨qo, 0, none⟩ = some (.slice oa ss.length oc) := by rw [cell_of_row _ _ _ _ _ _ ko2]; rfl
        have o2f : X2.frozen? ⟨qo, 0, none⟩ = false := by simp [World.frozen?, ko2]
        have KO2 := Lib.hid ko2; have HSO2 := Lib.hid hso2; have HKP2 := Lib.hid hkp2
        clear hown2 hgrow2 hcs hcr hck hcs1 hKO ko2 hy1 hso2 hkp2
        refine wpAnyH_ready (rs := [5]) (by kernel_rfl) (by simp) ?_
        refine AllReadyH.cons (o := { dst := none, op := Op.store 46 (Operand.tmp 2) (Operand.tmp 12), type := 0, pos := "outright.go:220", after := #[{ on := 4, ground := Ground.data }, { on := 4, ground := Ground.chain }, { on := 0, ground := Ground.phase }, { on := 1, ground := Ground.phase }, { on := 2, ground := Ground.phase }, { on := 3, ground := Ground.phase }, { on := 4, ground := Ground.phase }], guard := none }) rfl (fun K hK => ?_) AllReadyH.nil
        go_simp
        refine hK.out _ _ (trivial) (fun hHeld => ?_)
        clear hK K
        try simp only [Act.put, List.setIfInBounds_toArray, List.set_cons_zero, List.set_cons_succ]
        refine wpAnyH_done (by kernel_rfl) ?_ _
        clear hHeld o2 o2f
        have hko3 := set_row (o := 0) (v := .slice (some ⟨g5, 0, none⟩) (ss.length + 1) cp) KO2.out
        have hlo4 : LOwn (X2.setCell ⟨qo, 0, none⟩ (.slice (some ⟨g5, 0, none⟩) (ss.length + 1) cp)) base (.slice (some ⟨g5, 0, none⟩) (ss.length + 1) cp) (ss ++ [vs.map natI]) := HSO2.out.typed fun k c t ht e => (Below.heap_setCell _ _ _ _ (ne_of_types e KO2.out (by rcases ht with rfl | rfl <;> decide))).trans e
        refine abs_post (fun Z => Z.heap[qo]? = some (.cells #[.slice (some ⟨g5, 0, none⟩) (ss.length + 1) cp] 46 (0, 0)) ∧ LOwn Z base (.slice (some ⟨g5, 0, none⟩) (ss.length + 1) cp) (ss ++ [vs.map natI]) ∧ KeptT 39 (One qo) base w Z)
          ⟨hko3, hlo4, HKP2.out.setCell (show One qo qo from rfl) _⟩ ?_
        clear hko3 hlo4 KO2 HSO2 HKP2 KOX KO1 KX HBX HB1 HO1 HKV HSV HBV HLUV
        rintro Z ⟨ko, hso, hkp⟩
        have o0 : Z.cell? ⟨qo, 0, none⟩ = some (.slice (some ⟨g5, 0, none⟩) (ss.length + 1) cp) := by rw [cell_of_row _ _ _ _ _ _ ko]; rfl
        have KO := Lib.hid ko; have HSO := Lib.hid hso; have HKP := Lib.hid hkp
        clear ko hso hkp
        go_wp2
        go_ret
        rw [HST.out]
        exact ⟨by rw [List.length_append, List.length_singleton]; rfl, ⟨_, KO.out, HSO.out⟩, HKP.out⟩
end Go.Proofs.YtdmmegmkdhinjaaGreatDoor
