/- Package domain: a node of the search. · Package domain: Solve. -/
import Derived.Test.YtdmmegmkdhinjaaGreatDoorBI
namespace Go.Proofs.YtdmmegmkdhinjaaGreatDoor
open Go Go.RowKit
attribute [local go_sem] cell_grow u64_sAnd u64_sOr u64_sDiff sDiff_all zeqI zneI sAnd_bit_zero sAnd_bit_zeroN sAnd_bit_nonzero Oper.semAt_some wide_fn wide_depth

set_option maxRecDepth 100000 in
set_option maxHeartbeats 8000000 in
theorem node_any {σ : Type} (p : Dp) (hpo : probD p = true) (dv rv : Value) (s qo qm B base : Nat) (F : FuncId) (fnd : σ → List Int → Bool × σ) (Inv : Nat → σ → World → Prop) (hx : SFix s qo B base) (ht : Told p.doms.length qo qm base F fnd Inv) :
    ∀ (k : Nat) (f : List Nat) (st : Sx σ) (w : World), totalD f < k → Fok f → st.nodes ≤ 2000 → SNow p dv rv (foundV F qo qm) s B base Inv st w →
    Calls Tryz.prog 57 #[.pointer (some ⟨s, 0, none⟩), fieldV f] w (NodeP dv rv (foundV F qo qm) s qo base Inv (nodeD p fnd k f st) w) := by
  intro k
  induction k with
  | zero => intro f st w h; omega
  | succ k ih =>
  intro f st w hk hf hnl hnow
  have HIH := Lib.hid ih
  clear ih
  obtain ⟨da, dc, rfl⟩ := hnow.doms.slice
  obtain ⟨ra, rc, rfl⟩ := hnow.rls.slice
  have h8 := hf.len
  have HX := Lib.hid hx; have HTO := Lib.hid ht; have HPO := Lib.hid hpo; have HPP := Lib.hid (probD_parts hpo); have HF := Lib.hid hf; have HNOW := Lib.hid hnow
  have hsl : s < w.heap.size := (Array.getElem?_eq_some_iff.1 hnow.blk).1
  have hol : qo < w.heap.size := ht.lt _ _ _ hnow.inv
  have hBw : B ≤ w.heap.size := Nat.le_trans hx.leb hnow.base
  clear hnow hf hx ht hpo
  refine callsIn_wide.1 (callsIn_of_wp_marks (n := 0) Tryz.func57 rfl trivial (wpIn_wide.2 ?_) rfl)
  simp only [Tryz.ntmps57, List.size_toArray, List.length_cons, List.length_nil, Nat.reduceAdd, Nat.reduceSub, Array.replicate_succ, Array.replicate_zero, List.push_toArray, List.append_toArray, List.nil_append, List.cons_append]
  go_upto_region 1 with fail
  refine abs_wp (fun W => W.heap[w.heap.size]? = some (.cells #[.pointer (some ⟨s, 0, none⟩)] 91 (0, 0)) ∧ W.heap[w.heap.size + 1]? = some (.cells (natsV f).toArray 77 (0, 0)) ∧ W.heap[w.heap.size + 1 + 1]? = some (.cells #[.bool false] 4 (0, 0)) ∧ Below w.heap.size w W ∧ w.heap.size + 3 = W.heap.size) ⟨(heap_new3 _ _ _ _).1, (heap_new3 _ _ _ _).2.1, (heap_new3 _ _ _ _).2.2, Below.new3 _ _ _ _, by simp⟩ ?_
  rintro W ⟨k0, k1, k2, hb, hs⟩
  have hnW := HNOW.out.below HX.out HTO.out hb
  have c0 : W.cell? ⟨w.heap.size, 0, none⟩ = some (.pointer (some ⟨s, 0, none⟩)) := by rw [cell_of_row _ _ _ _ _ _ k0]; rfl
  have s2 : W.cell? ⟨s, 2, none⟩ = some (.int .i64 (st.nodes : Nat)) := by rw [cell_of_row _ _ _ _ _ _ hnW.blk]; rfl
  have s4 : W.cell? ⟨s, 4, none⟩ = some (.bool st.opn) := by rw [cell_of_row _ _ _ _ _ _ hnW.blk]; rfl
  have f2 : W.frozen? ⟨s, 2, none⟩ = false := by simp [World.frozen?, hnW.blk]
  have f4 : W.frozen? ⟨s, 4, none⟩ = false := by simp [World.frozen?, hnW.blk]
  have z0 : w.heap.size < W.heap.size := by omega
  have z1 : s < W.heap.size := by omega
  have K0 := Lib.hid k0; have K1 := Lib.hid k1; have K2 := Lib.hid k2; have HB := Lib.hid hb; have HNW := Lib.hid hnW
  clear k0 k1 k2 hb hnW
  by_cases h2000 : st.nodes = 2000
  · have HR : Hid (nodeD p fnd (k + 1) f st = (false, { st with opn := true })) := Lib.hid (by unfold nodeD; rw [if_pos h2000])
    have e1 : (((st.nodes : Nat) : Int) == 2000) = true := by rw [h2000]; rfl
    have ho := HNW.out.setO HX.out HTO.out
    have k2' := ((Below.heap_setCell W ⟨s, 4, none⟩ (.bool true) (w.heap.size + 1 + 1) (by show w.heap.size + 1 + 1 ≠ s; omega)).trans K2.out)
    have ho2 := ho.setB HX.out HTO.out (o := 0) k2' (by omega) (.bool false)
    have r2 : (W.setCell ⟨s, 4, none⟩ (.bool true)).cell? ⟨w.heap.size + 1 + 1, 0, none⟩ = some (.bool false) := by rw [cell_of_row _ _ _ _ _ _ k2']; rfl
    have fr2 : (W.setCell ⟨s, 4, none⟩ (.bool true)).frozen? ⟨w.heap.size + 1 + 1, 0, none⟩ = false := by simp [World.frozen?, k2']
    have HO := Lib.hid ho2
    have hkp := (((KeptT.of_below (T := 39) (E := Two s qo) (base := base) HB.out).setCell (p := ⟨s, 4, none⟩) (.inl rfl) (.bool true)).setNew (p := ⟨w.heap.size + 1 + 1, 0, none⟩) (by show w.heap.size ≤ w.heap.size + 1 + 1; omega) (.bool false))
    have HKP := Lib.hid hkp
    clear ho ho2 hkp h2000 k2'
    go_wp2
    rw [HR.out]
    exact bodyM_ret0 (results_cell1 rfl rfl (loadVar_one Tryz.underlying4 rfl (World.cell?_setCell_same _ _ _ r2))) rfl (NodeP.fin HO.out HTO.out HKP.out (Below.refl _ _) (CK.refl _))
  · have e1 : (((st.nodes : Nat) : Int) == 2000) = false := by
      rw [beq_eq_false_iff_ne]; omega
    have hn2 := HNW.out.setN HX.out HTO.out
    have g0 := ((Below.heap_setCell W ⟨s, 2, none⟩ (.int .i64 ((st.nodes + 1 : Nat) : Int)) w.heap.size (by show w.heap.size ≠ s; omega)).trans K0.out)
    have g1 := ((Below.heap_setCell W ⟨s, 2, none⟩ (.int .i64 ((st.nodes + 1 : Nat) : Int)) (w.heap.size + 1) (by show w.heap.size + 1 ≠ s; omega)).trans K1.out)
    have g2 := ((Below.heap_setCell W ⟨s, 2, none⟩ (.int .i64 ((st.nodes + 1 : Nat) : Int)) (w.heap.size + 1 + 1) (by show w.heap.size + 1 + 1 ≠ s; omega)).trans K2.out)
    have hkp := (KeptT.of_below (T := 39) (E := Two s qo) (base := base) HB.out).setCell (p := ⟨s, 2, none⟩) (.inl rfl) (.int .i64 ((st.nodes + 1 : Nat) : Int))
    have hsz : (W.setCell ⟨s, 2, none⟩ (.int .i64 ((st.nodes + 1 : Nat) : Int))).heap.size = w.heap.size + 3 := by simp [World.setCell]; omega
    have hi2 : Inv st.nodes st.got (W.setCell ⟨s, 2, none⟩ (.int .i64 ((st.nodes : Int) + 1))) := HTO.out.kept _ _ _ _ HNW.out.inv fun k c t _ h2 _ e => (Below.heap_setCell _ _ _ _ (ne_of_types e HNW.out.blk h2)).trans e
    go_upto_region 5 with fail
    rw [show ((st.nodes + 1 : Nat) : Int) = (st.nodes : Int) + 1 from rfl] at hn2 g0 g1 g2 hkp hsz
    refine abs_wp (fun W2 => SNow p (.slice da p.doms.length dc) (.slice ra p.rules.length rc) (foundV F qo qm) s B base Inv { st with nodes := st.nodes + 1 } W2 ∧ W2.heap[w.heap.size]? = some (.cells #[.pointer (some ⟨s, 0, none⟩)] 91 (0, 0)) ∧ W2.heap[w.heap.size + 1]? = some (.cells (natsV f).toArray 77 (0, 0)) ∧ W2.heap[w.heap.size + 1 + 1]? = some (.cells #[.bool false] 4 (0, 0)) ∧
      KeptT 39 (Two s qo) base w W2 ∧ W2.heap.size = w.heap.size + 3 ∧ Inv st.nodes st.got W2) ⟨hn2, g0, g1, g2, hkp, hsz, hi2⟩ ?_
    clear hn2 g0 g1 g2 hkp hsz hi2 HNW K0 K1 K2 HB c0 s2 s4 f2 f4 z0 z1 hs
    rintro W2 ⟨hn2, k0, k1, k2, hkp, hsz, hi2⟩
    have HI2 := Lib.hid hi2
    clear hi2
    have hsA : ∀ V : World, Below W2.heap.size W2 V → V.cell? ⟨w.heap.size, 0, none⟩ = some (.pointer (some ⟨s, 0, none⟩)) ∧ V.cell? ⟨s, 0, none⟩ = some (.slice da p.doms.length dc) ∧ V.cell? ⟨s, 1, none⟩ = some (.slice ra p.rules.length rc) ∧ V.rangeAt (w.heap.size + 1) 0 (natsV f) := fun V hV => by
      have h0 := heap_later k0 hV (by omega)
      have h1 := heap_later k1 hV (by omega)
      have hb := heap_later hn2.blk hV (by omega)
      exact ⟨by rw [cell_of_row _ _ _ _ _ _ h0]; rfl, by rw [cell_of_row _ _ _ _ _ _ hb]; rfl, by rw [cell_of_row _ _ _ _ _ _ hb]; rfl, row_rangeL h1⟩
    have RI : Hid ((Tryz.prog.info? 77).map (·.size) = some (natsV f).length) := Lib.hid (by rw [natsV_length, h8]; kernel_rfl)
    have hbp := build_prop0 da p.doms.length dc ra p.rules.length rc f h8
    have HSA := Lib.hid hsA; have HN2 := Lib.hid hn2; have K0 := Lib.hid k0; have K1 := Lib.hid k1; have K2 := Lib.hid k2; have HKP := Lib.hid hkp; have HBP := Lib.hid hbp
    clear hsA hn2 k0 k1 k2 hkp hbp
    apply wp_mid (A := fun (x y _ : Nat) => { tmps := #[.pointer (some ⟨s, 0, none⟩), fieldV f, .pointer (some ⟨w.heap.size, 0, none⟩), .pointer (some ⟨w.heap.size + 1, 0, none⟩), .pointer (some ⟨w.heap.size + 1 + 1, 0, none⟩), .pointer (some ⟨x, 0, none⟩), undef, undef, undef, undef, undef, undef, .pointer (some ⟨s, 0, none⟩), .pointer (some ⟨s, 0, none⟩), .pointer (some ⟨s, 2, none⟩), .int .i64 (st.nodes : Nat), .bool false, undef, undef, undef, .pointer (some ⟨s, 0, none⟩), .pointer (some ⟨s, 0, none⟩), .pointer (some ⟨s, 2, none⟩), .int .i64 (st.nodes : Nat), .int .i64 ((st.nodes : Int) + 1), .pointer (some ⟨s, 0, none⟩), .pointer (some ⟨s, 2, none⟩), .pointer (some ⟨s, 0, none⟩), .pointer (some ⟨s, 0, none⟩), .pointer (some ⟨s, 0, none⟩), .agg #[.slice da p.doms.length dc, .slice ra p.rules.length rc], .agg (natsV f).toArray, .agg (propC (.slice da p.doms.length dc) (.slice ra p.rules.length rc) f (.slice none 0 0) false).toArray, .pointer (some ⟨y, 0, none⟩), undef, undef, undef, undef, undef, undef, undef, undef, undef, undef, undef, undef, undef, undef, undef, undef, undef, undef, undef, undef, undef, undef, undef, undef, undef, undef, undef, undef, undef, undef, undef, undef, undef, undef, undef, undef, undef, undef, undef, undef, undef, undef, undef, undef, undef, undef, undef, undef, undef, undef, undef, undef, undef, undef, undef, undef, undef, undef, undef, undef], defers := [] }) (R := fun (qx xb _ : Nat) W3 => W3.heap[qx]? = some (.cells #[.pointer (some ⟨xb, 0, none⟩)] 75 (0, 0)) ∧ W3.heap[xb]? = some (.cells (propC (.slice da p.doms.length dc) (.slice ra p.rules.length rc) f (.slice none 0 0) false).toArray 80 (0, 0)) ∧ Below W2.heap.size W2 W3 ∧ W2.heap.size ≤ xb ∧ W2.heap.size ≤ qx)
    case h =>
      refine wp_region_held_drew (S := fun V => V.cell? ⟨w.heap.size, 0, none⟩ = some (.pointer (some ⟨s, 0, none⟩)) ∧ V.cell? ⟨s, 0, none⟩ = some (.slice da p.doms.length dc) ∧ V.cell? ⟨s, 1, none⟩ = some (.slice ra p.rules.length rc) ∧ V.rangeAt (w.heap.size + 1) 0 (natsV f)) (by kernel_rfl) (HSA.out _ (Below.drewn (Below.refl _ _))) (fun hHeld => ?_)
      change wpAnyH _ _ nodAOps _ _ _ _ _ _
      refine abs_anyHS (fun V => Below W2.heap.size W2 V) (Below.drewn (Below.refl _ _)) hHeld ?_
      clear hHeld
      rintro V hbV hHeld
      have HBV := Lib.hid hbV
      clear hbV
      refine wpAnyH_take (i := 0) (oi := { dst := some 27, op := Op.load 91 (Operand.tmp 2), type := 91, pos := "search.go:101", after := #[], guard := none }) (v := ?_) rfl (by kernel_rfl) (by kernel_rfl) (by kernel_rfl) (fun _ _ _ h => h) (Or.inl ⟨by kernel_rfl, ?_⟩) hHeld ?_
      rotate_left
      · intro w hSw
        try dsimp only at hSw
        obtain ⟨hs0, hs1, hs2, hs3⟩ := hSw
        go_simp
        try with_reducible rfl
      try simp only [Act.put, List.setIfInBounds_toArray, List.set_cons_zero, List.set_cons_succ]
      refine wpAnyH_take (i := 1) (oi := { dst := some 28, op := Op.nilCheck (Operand.tmp 27), type := 0, pos := "search.go:101", after := #[{ on := 0, ground := Ground.data }], guard := none }) (v := ?_) rfl (by kernel_rfl) (by kernel_rfl) (by kernel_rfl) (fun _ _ _ h => h) (Or.inl ⟨by kernel_rfl, ?_⟩) hHeld ?_
      rotate_left
      · intro w hSw
        try dsimp only at hSw
        obtain ⟨hs0, hs1, hs2, hs3⟩ := hSw
        go_simp
        try with_reducible rfl
      try simp only [Act.put, List.setIfInBounds_toArray, List.set_cons_zero, List.set_cons_succ]
      refine wpAnyH_take (i := 2) (oi := { dst := some 29, op := Op.fieldAddr 93 (Operand.tmp 28) 0, type := 0, pos := "search.go:101", after := #[{ on := 1, ground := Ground.data }], guard := none }) (v := ?_) rfl (by kernel_rfl) (by kernel_rfl) (by kernel_rfl) (fun _ _ _ h => h) (Or.inl ⟨by kernel_rfl, ?_⟩) hHeld ?_
      rotate_left
      · intro w hSw
        try dsimp only at hSw
        obtain ⟨hs0, hs1, hs2, hs3⟩ := hSw
        go_simp
        try with_reducible rfl
      try simp only [Act.put, List.setIfInBounds_toArray, List.set_cons_zero, List.set_cons_succ]
      refine wpAnyH_take (i := 3) (oi := { dst := some 30, op := Op.load 25 (Operand.tmp 29), type := 25, pos := "search.go:101", after := #[{ on := 2, ground := Ground.data }], guard := none }) (v := ?_) rfl (by kernel_rfl) (by kernel_rfl) (by kernel_rfl) (fun _ _ _ h => h) (Or.inl ⟨by kernel_rfl, ?_⟩) hHeld ?_
      rotate_left
      · intro w hSw
        try dsimp only at hSw
        obtain ⟨hs0, hs1, hs2, hs3⟩ := hSw
        go_simp
        try with_reducible rfl
      try simp only [Act.put, List.setIfInBounds_toArray, List.set_cons_zero, List.set_cons_succ]
      refine wpAnyH_take (i := 4) (oi := { dst := some 31, op := Op.load 77 (Operand.tmp 3), type := 77, pos := "search.go:101", after := #[], guard := none }) (v := .agg (natsV f).toArray) rfl (by kernel_rfl) (by kernel_rfl) (by kernel_rfl) (fun _ _ _ h => h) ?_ hHeld ?_
      · refine yieldsIf_load_mid ?_ 77 (.tmp 3) ?_ (w.heap.size + 1) 0 ?_ (natsV f) _ ?_ Tryz.underlying77 rfl RI.out
        · rfl
        · rfl
        · rfl
        · intro w hSw
          exact hSw.2.2.2
      try simp only [Act.put, List.setIfInBounds_toArray, List.set_cons_zero, List.set_cons_succ]
      refine wpAnyH_take (i := 5) (oi := { dst := some 32, op := Op.build 80 #[(0, Operand.tmp 30), (1, Operand.tmp 31)], type := 80, pos := "search.go:101", after := #[{ on := 3, ground := Ground.data }, { on := 4, ground := Ground.data }], guard := none }) (v := .agg (propC (.slice da p.doms.length dc) (.slice ra p.rules.length rc) f (.slice none 0 0) false).toArray) rfl (by kernel_rfl) (by kernel_rfl) (by kernel_rfl) (fun _ _ _ h => h) (Or.inl ⟨by kernel_rfl, ?_⟩) hHeld ?_
      · intro w hSw
        clear hSw
        obtain ⟨b0, b1, b2, b3, b4, b5, b6, b7, hf8⟩ := list8 f h8
        rw [hf8]
        go_simp
        rfl
      try simp only [Act.put, List.setIfInBounds_toArray, List.set_cons_zero, List.set_cons_succ]
      refine wpAnyH_ready (rs := [6, 7]) (by kernel_rfl) (by simp) ?_
      refine AllReadyH.cons (o := { dst := some 33, op := Op.box 80 (Operand.tmp 32), type := 75, pos := "search.go:101", after := #[{ on := 5, ground := Ground.data }], guard := none }) rfl (fun K hK => ?_) (AllReadyH.cons (o := { dst := some 5, op := Op.alloc 75, type := 0, pos := "search.go:101", after := #[], guard := none }) rfl (fun K hK => ?_) AllReadyH.nil)
      · go_simp
        obtain ⟨xb, hxb⟩ : ∃ q, q = V.heap.size := ⟨_, rfl⟩
        have hnx := Below.new1 V (.cells (propC (.slice da p.doms.length dc) (.slice ra p.rules.length rc) f (.slice none 0 0) false).toArray 80)
        have hkx := heap_new0 V (.cells (propC (.slice da p.doms.length dc) (.slice ra p.rules.length rc) f (.slice none 0 0) false).toArray 80)
        have hbx := HBV.out.trans (hnx.mono HBV.out.size)
        have hlx : W2.heap.size ≤ xb := by rw [hxb]; exact HBV.out.size
        rw [← hxb] at hkx ⊢
        obtain ⟨V1, hZZ⟩ : ∃ Z, Z = V.alloc (.cells (propC (.slice da p.doms.length dc) (.slice ra p.rules.length rc) f (.slice none 0 0) false).toArray 80) := ⟨_, rfl⟩
        rw [← hZZ] at hkx hbx hnx ⊢
        refine hK.out _ _ (HSA.out _ hbx) (fun hHeld => ?_)
        clear hK K
        try simp only [Act.put, List.setIfInBounds_toArray, List.set_cons_zero, List.set_cons_succ]
        have HLAST := Lib.hid hnx
        have HKX := Lib.hid hkx; have HLX := Lib.hid hlx
        clear HBV
        have HBV := Lib.hid hbx
        clear hkx hbx hlx hnx hxb hZZ
        refine wpAnyH_ready (rs := [7]) (by kernel_rfl) (by simp) ?_
        refine AllReadyH.cons (o := { dst := some 5, op := Op.alloc 75, type := 0, pos := "search.go:101", after := #[], guard := none }) rfl (fun K hK => ?_) AllReadyH.nil
        go_simp
        obtain ⟨qx, hqx⟩ : ∃ q, q = V1.heap.size := ⟨_, rfl⟩
        have hnx := Below.new1 V1 (.cells #[.pointer none] 75)
        have hkx := heap_new0 V1 (.cells #[.pointer none] 75)
        have hbx := HBV.out.trans (hnx.mono HBV.out.size)
        have hlx : W2.heap.size ≤ qx := by rw [hqx]; exact HBV.out.size
        rw [← hqx] at hkx ⊢
        obtain ⟨V2, hZZ⟩ : ∃ Z, Z = V1.alloc (.cells #[.pointer none] 75) := ⟨_, rfl⟩
        rw [← hZZ] at hkx hbx hnx ⊢
        refine hK.out _ _ (HSA.out _ hbx) (fun hHeld => ?_)
        clear hK K
        try simp only [Act.put, List.setIfInBounds_toArray, List.set_cons_zero, List.set_cons_succ]
        have HLAST := Lib.hid hnx
        have HKQ := Lib.hid hkx; have HLQ := Lib.hid hlx
        clear HBV
        have HBV := Lib.hid hbx
        clear hkx hbx hlx hnx hqx hZZ
        have hk9 := heap_later HKX.out HLAST.out (Array.getElem?_eq_some_iff.1 HKX.out).1
        have HKX := Lib.hid hk9
        clear hk9
        have qq : V2.cell? ⟨qx, 0, none⟩ = some (.pointer none) := by rw [cell_of_row _ _ _ _ _ _ HKQ.out]; rfl
        have fq : V2.frozen? ⟨qx, 0, none⟩ = false := by simp [World.frozen?, HKQ.out]
        refine wpAnyH_ready (rs := [8]) (by kernel_rfl) (by simp) ?_
        refine AllReadyH.cons (o := { dst := none, op := Op.store 75 (Operand.tmp 5) (Operand.tmp 33), type := 0, pos := "search.go:101", after := #[{ on := 7, ground := Ground.data }, { on := 6, ground := Ground.data }, { on := 0, ground := Ground.phase }, { on := 1, ground := Ground.phase }, { on := 2, ground := Ground.phase }, { on := 3, ground := Ground.phase }, { on := 4, ground := Ground.phase }, { on := 5, ground := Ground.phase }, { on := 6, ground := Ground.phase }, { on := 7, ground := Ground.phase }], guard := none }) rfl (fun K hK => ?_) AllReadyH.nil
        go_simp
        have hq2 : W2.heap.size ≤ qx := HLQ.out
        refine hK.out _ _ (HSA.out _ (HBV.out.setCell (p := ⟨qx, 0, none⟩) HLQ.out _)) (fun hHeld => ?_)
        clear hK K
        try simp only [Act.put, List.setIfInBounds_toArray, List.set_cons_zero, List.set_cons_succ]
        refine wpAnyH_done (by kernel_rfl) ?_ _
        dsimp only [onlyN]
        obtain ⟨zz, _⟩ : ∃ z : Nat, z = 0 := ⟨0, rfl⟩
        exact ⟨qx, xb, zz, rfl, by rw [set_row HKQ.out]; rfl, (Below.heap_setCell _ _ _ _ (ne_of_types HKX.out HKQ.out (by decide))).trans HKX.out, HBV.out.setCell (p := ⟨qx, 0, none⟩) HLQ.out _, HLX.out, HLQ.out⟩
      · go_simp
        obtain ⟨qx, hqx⟩ : ∃ q, q = V.heap.size := ⟨_, rfl⟩
        have hnx := Below.new1 V (.cells #[.pointer none] 75)
        have hkx := heap_new0 V (.cells #[.pointer none] 75)
        have hbx := HBV.out.trans (hnx.mono HBV.out.size)
        have hlx : W2.heap.size ≤ qx := by rw [hqx]; exact HBV.out.size
        rw [← hqx] at hkx ⊢
        obtain ⟨V1, hZZ⟩ : ∃ Z, Z = V.alloc (.cells #[.pointer none] 75) := ⟨_, rfl⟩
        rw [← hZZ] at hkx hbx hnx ⊢
        refine hK.out _ _ (HSA.out _ hbx) (fun hHeld => ?_)
        clear hK K
        try simp only [Act.put, List.setIfInBounds_toArray, List.set_cons_zero, List.set_cons_succ]
        have HLAST := Lib.hid hnx
        have HKQ := Lib.hid hkx; have HLQ := Lib.hid hlx
        clear HBV
        have HBV := Lib.hid hbx
        clear hkx hbx hlx hnx hqx hZZ
        refine wpAnyH_ready (rs := [6]) (by kernel_rfl) (by simp) ?_
        refine AllReadyH.cons (o := { dst := some 33, op := Op.box 80 (Operand.tmp 32), type := 75, pos := "search.go:101", after := #[{ on := 5, ground := Ground.data }], guard := none }) rfl (fun K hK => ?_) AllReadyH.nil
        go_simp
        obtain ⟨xb, hxb⟩ : ∃ q, q = V1.heap.size := ⟨_, rfl⟩
        have hnx := Below.new1 V1 (.cells (propC (.slice da p.doms.length dc) (.slice ra p.rules.length rc) f (.slice none 0 0) false).toArray 80)
        have hkx := heap_new0 V1 (.cells (propC (.slice da p.doms.length dc) (.slice ra p.rules.length rc) f (.slice none 0 0) false).toArray 80)
        have hbx := HBV.out.trans (hnx.mono HBV.out.size)
        have hlx : W2.heap.size ≤ xb := by rw [hxb]; exact HBV.out.size
        rw [← hxb] at hkx ⊢
        obtain ⟨V2, hZZ⟩ : ∃ Z, Z = V1.alloc (.cells (propC (.slice da p.doms.length dc) (.slice ra p.rules.length rc) f (.slice none 0 0) false).toArray 80) := ⟨_, rfl⟩
        rw [← hZZ] at hkx hbx hnx ⊢
        refine hK.out _ _ (HSA.out _ hbx) (fun hHeld => ?_)
        clear hK K
        try simp only [Act.put, List.setIfInBounds_toArray, List.set_cons_zero, List.set_cons_succ]
        have HLAST := Lib.hid hnx
        have HKX := Lib.hid hkx; have HLX := Lib.hid hlx
        clear HBV
        have HBV := Lib.hid hbx
        clear hkx hbx hlx hnx hxb hZZ
        have hk9 := heap_later HKQ.out HLAST.out (Array.getElem?_eq_some_iff.1 HKQ.out).1
        have HKQ := Lib.hid hk9
        clear hk9
        have qq : V2.cell? ⟨qx, 0, none⟩ = some (.pointer none) := by rw [cell_of_row _ _ _ _ _ _ HKQ.out]; rfl
        have fq : V2.frozen? ⟨qx, 0, none⟩ = false := by simp [World.frozen?, HKQ.out]
        refine wpAnyH_ready (rs := [8]) (by kernel_rfl) (by simp) ?_
        refine AllReadyH.cons (o := { dst := none, op := Op.store 75 (Operand.tmp 5) (Operand.tmp 33), type := 0, pos := "search.go:101", after := #[{ on := 7, ground := Ground.data }, { on := 6, ground := Ground.data }, { on := 0, ground := Ground.phase }, { on := 1, ground := Ground.phase }, { on := 2, ground := Ground.phase }, { on := 3, ground := Ground.phase }, { on := 4, ground := Ground.phase }, { on := 5, ground := Ground.phase }, { on := 6, ground := Ground.phase }, { on := 7, ground := Ground.phase }], guard := none }) rfl (fun K hK => ?_) AllReadyH.nil
        go_simp
        have hq2 : W2.heap.size ≤ qx := HLQ.out
        refine hK.out _ _ (HSA.out _ (HBV.out.setCell (p := ⟨qx, 0, none⟩) HLQ.out _)) (fun hHeld => ?_)
        clear hK K
        try simp only [Act.put, List.setIfInBounds_toArray, List.set_cons_zero, List.set_cons_succ]
        refine wpAnyH_done (by kernel_rfl) ?_ _
        dsimp only [onlyN]
        obtain ⟨zz, _⟩ : ∃ z : Nat, z = 0 := ⟨0, rfl⟩
        exact ⟨qx, xb, zz, rfl, by rw [set_row HKQ.out]; rfl, (Below.heap_setCell _ _ _ _ (ne_of_types HKX.out HKQ.out (by decide))).trans HKX.out, HBV.out.setCell (p := ⟨qx, 0, none⟩) HLQ.out _, HLX.out, HLQ.out⟩
    case hq =>
      rintro qx xb zz W3 ⟨hqx, hxb, hb3, hlx, hqx2⟩
      have hn3 := HN2.out.below HX.out HTO.out hb3
      have c5 : W3.cell? ⟨qx, 0, none⟩ = some (.pointer (some ⟨xb, 0, none⟩)) := by rw [cell_of_row _ _ _ _ _ _ hqx]; rfl
      have zqx : qx < W3.heap.size := (Array.getElem?_eq_some_iff.1 hqx).1
      have hqne : qx ≠ xb := ne_of_types hqx hxb (by decide)
      have HRUN := Lib.hid (run_any p false f _ _ _ xb W3 (B := B) (base := W3.heap.size) hn3.doms hn3.rls HX.out.pos (by omega) (by have := hn3.base; have := HX.out.leb; omega) hxb (COwn.nil _ _) (Nat.le_refl _) HF.out HPO.out hn3.tab)
      have HQX := Lib.hid hqx; have HB3 := Lib.hid hb3; have HLX := Lib.hid hlx
      have hs3 := hb3.size
      clear hn3 hqx hxb hb3 hlx
      go_wp2_with fail
      refine HRUN.out.mono ?_
      rintro e W5 ⟨⟨rv5, rfl⟩, lv, hx5, hc5, hk5⟩
      have hgood := run_good (rs := false) HPO.out HF.out
      have hb25 : Below W2.heap.size W2 W5 := HB3.out.trans (hk5.toBelow (B := W2.heap.size) (by omega) (by omega) (fun q hq hh => by unfold One at hh; have := HLX.out; omega))
      have hqx5 := hk5.same _ _ HQX.out (by show ¬ qx = xb; exact hqne) (.inr (nT (by decide)))
      have c5 : W5.cell? ⟨qx, 0, none⟩ = some (.pointer (some ⟨xb, 0, none⟩)) := by rw [cell_of_row _ _ _ _ _ _ hqx5]; rfl
      have zqx5 : qx < W5.heap.size := (Array.getElem?_eq_some_iff.1 hqx5).1
      have hgt := run_total (rs := false) HPO.out HF.out
      obtain ⟨g, hg⟩ : ∃ g, g = (runD p false f).1 := ⟨_, rfl⟩
      rw [← hg] at hx5 hgt
      have hgf : Fok g := by rw [hg]; exact hgood.f
      have HEM := Lib.hid (empty_any p g false da dc _ lv xb W5 hx5 hgf.len HPP.out.2.1)
      have HX5 := Lib.hid hx5; have HQX5 := Lib.hid hqx5; have HB25 := Lib.hid hb25; have HG := Lib.hid hg; have HGF := Lib.hid hgf
      clear hx5 hc5 hk5 hgood hb25 hqx5 hg hgf HRUN HQX HB3
      go_wp2_with fail
      refine HEM.out.mono ?_
      rintro e W6 ⟨rfl, hb6⟩
      have hb26 := HB25.out.trans (hb6.mono HB25.out.size)
      have k26 := heap_later K2.out hb26 (Array.getElem?_eq_some_iff.1 K2.out).1
      have r6 : W6.cell? ⟨w.heap.size + 1 + 1, 0, none⟩ = some (.bool false) := by rw [cell_of_row _ _ _ _ _ _ k26]; rfl
      have fr6 : W6.frozen? ⟨w.heap.size + 1 + 1, 0, none⟩ = false := by simp [World.frozen?, k26]
      cases hem : (g.take p.doms.length).contains 0
      case true =>
        have HR : Hid (nodeD p fnd (k + 1) f st = (true, { st with nodes := st.nodes + 1 })) := Lib.hid (by
          unfold nodeD; rw [if_neg h2000]; dsimp only; rw [← HG.out, if_pos hem])
        have hn6 := (HN2.out.below HX.out HTO.out hb26).setB HX.out HTO.out (o := 0) k26 (by omega) (.bool true)
        have hk6 := (HKP.out.below hb26).setNew (p := ⟨w.heap.size + 1 + 1, 0, none⟩) (by show w.heap.size ≤ w.heap.size + 1 + 1; omega) (.bool true)
        have HN6 := Lib.hid hn6; have HK6 := Lib.hid hk6
        clear hn6 hk6 hb6 hb26 k26 hem
        go_wp2
        rw [HR.out]
        exact bodyM_ret0 (results_cell1 rfl rfl (loadVar_one Tryz.underlying4 rfl (World.cell?_setCell_same _ _ _ r6))) rfl (NodeP.fin HN6.out HTO.out HK6.out (Below.refl _ _) (CK.refl _))
      case false =>
        have HEMF := Lib.hid hem
        have hx6 := heap_later HX5.out hb6 (Array.getElem?_eq_some_iff.1 HX5.out).1
        have hq6 := heap_later HQX5.out hb6 zqx5
        have HX6 := Lib.hid hx6; have HQ6 := Lib.hid hq6; have HB26 := Lib.hid hb26; have HN6 := Lib.hid (HN2.out.below HX.out HTO.out hb26); have HK6 := Lib.hid (HKP.out.below hb26)
        have K06 := Lib.hid (heap_later K0.out hb26 (Array.getElem?_eq_some_iff.1 K0.out).1); have K26 := Lib.hid k26
        clear hx6 hq6 hb26 k26 hb6 hem r6 fr6 HX5 HQX5 HB25 HEM c5 zqx zqx5
        have RIG : Hid ((Tryz.prog.info? 77).map (·.size) = some (natsV g).length) := Lib.hid (by rw [natsV_length, HGF.out.len]; kernel_rfl)
        have hsB : ∀ V : World, Below W6.heap.size W6 V → V.cell? ⟨w.heap.size, 0, none⟩ = some (.pointer (some ⟨s, 0, none⟩)) ∧ V.cell? ⟨qx, 0, none⟩ = some (.pointer (some ⟨xb, 0, none⟩)) ∧ V.rangeAt xb 2 (natsV g) := fun V hV => by
          have h0 := heap_later K06.out hV (Array.getElem?_eq_some_iff.1 K06.out).1
          have h1 := heap_later HQ6.out hV (Array.getElem?_eq_some_iff.1 HQ6.out).1
          have h2 := heap_later HX6.out hV (Array.getElem?_eq_some_iff.1 HX6.out).1
          exact ⟨by rw [cell_of_row _ _ _ _ _ _ h0]; rfl, by rw [cell_of_row _ _ _ _ _ _ h1]; rfl, prop_range HGF.out.len h2⟩
        have HSB := Lib.hid hsB
        clear hsB K0 K1 K2 HSA HBP RI HKP
        go_wp2_with fail
        apply wp_mid (R := fun (qk _ _ : Nat) W7 => W7.heap[qk]? = some (.cells #[.int .i64 (labelD p.doms.length g)] 3 (0, 0)) ∧ Below W6.heap.size W6 W7 ∧ W6.heap.size ≤ qk)
        case h =>
          refine wp_region_held_drew (S := fun V => V.cell? ⟨w.heap.size, 0, none⟩ = some (.pointer (some ⟨s, 0, none⟩)) ∧ V.cell? ⟨qx, 0, none⟩ = some (.pointer (some ⟨xb, 0, none⟩)) ∧ V.rangeAt xb 2 (natsV g)) (by kernel_rfl) (HSB.out _ (Below.drewn (Below.refl _ _))) (fun hHeld => ?_)
          change wpAnyH _ _ nodBOps _ _ _ _ _ _
          refine abs_anyHS (fun V => Below W6.heap.size W6 V) (Below.drewn (Below.refl _ _)) hHeld ?_
          clear hHeld
          rintro V hbV hHeld
          have HBV := Lib.hid hbV
          clear hbV
          refine wpAnyH_take (i := 0) (oi := { dst := some 38, op := Op.load 91 (Operand.tmp 2), type := 91, pos := "search.go:106", after := #[], guard := none }) (v := ?_) rfl (by kernel_rfl) (by kernel_rfl) (by kernel_rfl) (fun _ _ _ h => h) (Or.inl ⟨by kernel_rfl, ?_⟩) hHeld ?_
          rotate_left
          · intro w hSw
            try dsimp only at hSw
            obtain ⟨hs0, hs1, hs2⟩ := hSw
            go_simp
            try with_reducible rfl
          try simp only [Act.put, List.setIfInBounds_toArray, List.set_cons_zero, List.set_cons_succ]
          refine wpAnyH_take (i := 1) (oi := { dst := some 39, op := Op.load 75 (Operand.tmp 5), type := 75, pos := "search.go:106", after := #[], guard := none }) (v := ?_) rfl (by kernel_rfl) (by kernel_rfl) (by kernel_rfl) (fun _ _ _ h => h) (Or.inl ⟨by kernel_rfl, ?_⟩) hHeld ?_
          rotate_left
          · intro w hSw
            try dsimp only at hSw
            obtain ⟨hs0, hs1, hs2⟩ := hSw
            go_simp
            try with_reducible rfl
          try simp only [Act.put, List.setIfInBounds_toArray, List.set_cons_zero, List.set_cons_succ]
          refine wpAnyH_take (i := 2) (oi := { dst := some 40, op := Op.nilCheck (Operand.tmp 39), type := 0, pos := "search.go:106", after := #[{ on := 1, ground := Ground.data }], guard := none }) (v := ?_) rfl (by kernel_rfl) (by kernel_rfl) (by kernel_rfl) (fun _ _ _ h => h) (Or.inl ⟨by kernel_rfl, ?_⟩) hHeld ?_
          rotate_left
          · intro w hSw
            try dsimp only at hSw
            obtain ⟨hs0, hs1, hs2⟩ := hSw
            go_simp
            try with_reducible rfl
          try simp only [Act.put, List.setIfInBounds_toArray, List.set_cons_zero, List.set_cons_succ]
          refine wpAnyH_take (i := 3) (oi := { dst := some 41, op := Op.fieldAddr 80 (Operand.tmp 40) 1, type := 0, pos := "search.go:106", after := #[{ on := 2, ground := Ground.data }], guard := none }) (v := ?_) rfl (by kernel_rfl) (by kernel_rfl) (by kernel_rfl) (fun _ _ _ h => h) (Or.inl ⟨by kernel_rfl, ?_⟩) hHeld ?_
          rotate_left
          · intro w hSw
            try dsimp only at hSw
            obtain ⟨hs0, hs1, hs2⟩ := hSw
            go_simp
            try with_reducible rfl
          try simp only [Act.put, List.setIfInBounds_toArray, List.set_cons_zero, List.set_cons_succ]
          refine wpAnyH_take (i := 4) (oi := { dst := some 42, op := Op.load 77 (Operand.tmp 41), type := 77, pos := "search.go:106", after := #[{ on := 3, ground := Ground.data }], guard := none }) (v := .agg (natsV g).toArray) rfl (by kernel_rfl) (by kernel_rfl) (by kernel_rfl) (fun _ _ _ h => h) ?_ hHeld ?_
          · refine yieldsIf_load_mid ?_ 77 (.tmp 41) ?_ xb 2 ?_ (natsV g) _ ?_ Tryz.underlying77 rfl RIG.out
            · rfl
            · rfl
            · rfl
            · intro w hSw
              exact hSw.2.2
          try simp only [Act.put, List.setIfInBounds_toArray, List.set_cons_zero, List.set_cons_succ]
          try simp only [Act.put, List.setIfInBounds_toArray, List.set_cons_zero, List.set_cons_succ]
          refine wpAnyH_ready (rs := [5, 6]) (by kernel_rfl) (by simp) ?_
          refine AllReadyH.cons (o := { dst := some 43, op := Op.call { callee := Callee.value (Operand.func 89), args := #[Operand.tmp 38, Operand.tmp 42], argTypes := #[91, 77] }, type := 3, pos := "search.go:106", after := #[{ on := 0, ground := Ground.data }, { on := 4, ground := Ground.data }], guard := none }) rfl (fun K hK => ?_) (AllReadyH.cons (o := { dst := some 6, op := Op.alloc 3, type := 0, pos := "search.go:106", after := #[], guard := none }) rfl (fun K hK => ?_) AllReadyH.nil)
          · go_simp
            have hlab := label_any p g HGF.out HPP.out.2.1 s da dc V (by rw [cell_of_row _ _ _ _ _ _ (heap_later HN6.out.blk HBV.out (Array.getElem?_eq_some_iff.1 HN6.out.blk).1)]; rfl) (by have := HBV.out.size; have := HB26.out.size; omega) (HN6.out.tab.below HBV.out (by have := HB26.out.size; omega)) (by have := HBV.out.size; have := HB26.out.size; omega)
            refine hlab.mono ?_
            clear hlab
            rintro e V1 ⟨rfl, hb1⟩
            have hbz := HBV.out.trans (hb1.mono HBV.out.size)
            have HLAST := Lib.hid hb1
            clear hb1 HBV
            go_wp2_with fail
            refine hK.out _ _ (HSB.out _ hbz) (fun hHeld => ?_)
            clear hK K
            try simp only [Act.put, List.setIfInBounds_toArray, List.set_cons_zero, List.set_cons_succ]
            have HBV := Lib.hid hbz
            clear hbz
            refine wpAnyH_ready (rs := [6]) (by kernel_rfl) (by simp) ?_
            refine AllReadyH.cons (o := { dst := some 6, op := Op.alloc 3, type := 0, pos := "search.go:106", after := #[], guard := none }) rfl (fun K hK => ?_) AllReadyH.nil
            go_simp
            obtain ⟨qk, hqk⟩ : ∃ q, q = V1.heap.size := ⟨_, rfl⟩
            have hnx := Below.new1 V1 (.cells #[.int .i64 0] 3)
            have hkx := heap_new0 V1 (.cells #[.int .i64 0] 3)
            have hbx := HBV.out.trans (hnx.mono HBV.out.size)
            have hlk : W6.heap.size ≤ qk := by rw [hqk]; exact HBV.out.size
            rw [← hqk] at hkx ⊢
            obtain ⟨V2, hZZ⟩ : ∃ Z, Z = V1.alloc (.cells #[.int .i64 0] 3) := ⟨_, rfl⟩
            rw [← hZZ] at hkx hbx hnx ⊢
            refine hK.out _ _ (HSB.out _ hbx) (fun hHeld => ?_)
            clear hK K
            try simp only [Act.put, List.setIfInBounds_toArray, List.set_cons_zero, List.set_cons_succ]
            have HKK := Lib.hid hkx; have HLK := Lib.hid hlk
            clear HBV
            have HBV := Lib.hid hbx
            clear hkx hbx hlk hnx hqk hZZ
            have qq : V2.cell? ⟨qk, 0, none⟩ = some (.int .i64 0) := by rw [cell_of_row _ _ _ _ _ _ HKK.out]; rfl
            have fq : V2.frozen? ⟨qk, 0, none⟩ = false := by simp [World.frozen?, HKK.out]
            refine wpAnyH_ready (rs := [7]) (by kernel_rfl) (by simp) ?_
            refine AllReadyH.cons (o := { dst := none, op := Op.store 3 (Operand.tmp 6) (Operand.tmp 43), type := 0, pos := "search.go:106", after := #[{ on := 6, ground := Ground.data }, { on := 5, ground := Ground.data }, { on := 5, ground := Ground.chain }, { on := 0, ground := Ground.phase }, { on := 1, ground := Ground.phase }, { on := 2, ground := Ground.phase }, { on := 3, ground := Ground.phase }, { on := 4, ground := Ground.phase }, { on := 5, ground := Ground.phase }, { on := 6, ground := Ground.phase }], guard := none }) rfl (fun K hK => ?_) AllReadyH.nil
            go_simp
            have hq2 : W6.heap.size ≤ qk := HLK.out
            refine hK.out _ _ (HSB.out _ (HBV.out.setCell (p := ⟨qk, 0, none⟩) HLK.out _)) (fun hHeld => ?_)
            clear hK K
            try simp only [Act.put, List.setIfInBounds_toArray, List.set_cons_zero, List.set_cons_succ]
            refine wpAnyH_done (by kernel_rfl) ?_ _
            dsimp only [onlyN]
            obtain ⟨zy, _⟩ : ∃ z : Nat, z = 0 := ⟨0, rfl⟩
            obtain ⟨zz, _⟩ : ∃ z : Nat, z = 0 := ⟨0, rfl⟩
            exact ⟨qk, zy, zz, rfl, by rw [set_row HKK.out]; rfl, HBV.out.setCell (p := ⟨qk, 0, none⟩) HLK.out _, HLK.out⟩
          · go_simp
            obtain ⟨qk, hqk⟩ : ∃ q, q = V.heap.size := ⟨_, rfl⟩
            have hnx := Below.new1 V (.cells #[.int .i64 0] 3)
            have hkx := heap_new0 V (.cells #[.int .i64 0] 3)
            have hbx := HBV.out.trans (hnx.mono HBV.out.size)
            have hlk : W6.heap.size ≤ qk := by rw [hqk]; exact HBV.out.size
            rw [← hqk] at hkx ⊢
            obtain ⟨V1, hZZ⟩ : ∃ Z, Z = V.alloc (.cells #[.int .i64 0] 3) := ⟨_, rfl⟩
            rw [← hZZ] at hkx hbx hnx ⊢
            refine hK.out _ _ (HSB.out _ hbx) (fun hHeld => ?_)
            clear hK K
            try simp only [Act.put, List.setIfInBounds_toArray, List.set_cons_zero, List.set_cons_succ]
            have HKK := Lib.hid hkx; have HLK := Lib.hid hlk
            clear HBV
            have HBV := Lib.hid hbx
            clear hkx hbx hlk hnx hqk hZZ
            refine wpAnyH_ready (rs := [5]) (by kernel_rfl) (by simp) ?_
            refine AllReadyH.cons (o := { dst := some 43, op := Op.call { callee := Callee.value (Operand.func 89), args := #[Operand.tmp 38, Operand.tmp 42], argTypes := #[91, 77] }, type := 3, pos := "search.go:106", after := #[{ on := 0, ground := Ground.data }, { on := 4, ground := Ground.data }], guard := none }) rfl (fun K hK => ?_) AllReadyH.nil
            go_simp
            have hlab := label_any p g HGF.out HPP.out.2.1 s da dc V1 (by rw [cell_of_row _ _ _ _ _ _ (heap_later HN6.out.blk HBV.out (Array.getElem?_eq_some_iff.1 HN6.out.blk).1)]; rfl) (by have := HBV.out.size; have := HB26.out.size; omega) (HN6.out.tab.below HBV.out (by have := HB26.out.size; omega)) (by have := HBV.out.size; have := HB26.out.size; omega)
            refine hlab.mono ?_
            clear hlab
            rintro e V2 ⟨rfl, hb1⟩
            have hbz := HBV.out.trans (hb1.mono HBV.out.size)
            have HLAST := Lib.hid hb1
            clear hb1 HBV
            go_wp2_with fail
            refine hK.out _ _ (HSB.out _ hbz) (fun hHeld => ?_)
            clear hK K
            try simp only [Act.put, List.setIfInBounds_toArray, List.set_cons_zero, List.set_cons_succ]
            have HBV := Lib.hid hbz
            clear hbz
            have hk9 := heap_later HKK.out HLAST.out (Array.getElem?_eq_some_iff.1 HKK.out).1
            have HKK := Lib.hid hk9
            clear hk9
            have qq : V2.cell? ⟨qk, 0, none⟩ = some (.int .i64 0) := by rw [cell_of_row _ _ _ _ _ _ HKK.out]; rfl
            have fq : V2.frozen? ⟨qk, 0, none⟩ = false := by simp [World.frozen?, HKK.out]
            refine wpAnyH_ready (rs := [7]) (by kernel_rfl) (by simp) ?_
            refine AllReadyH.cons (o := { dst := none, op := Op.store 3 (Operand.tmp 6) (Operand.tmp 43), type := 0, pos := "search.go:106", after := #[{ on := 6, ground := Ground.data }, { on := 5, ground := Ground.data }, { on := 5, ground := Ground.chain }, { on := 0, ground := Ground.phase }, { on := 1, ground := Ground.phase }, { on := 2, ground := Ground.phase }, { on := 3, ground := Ground.phase }, { on := 4, ground := Ground.phase }, { on := 5, ground := Ground.phase }, { on := 6, ground := Ground.phase }], guard := none }) rfl (fun K hK => ?_) AllReadyH.nil
            go_simp
            have hq2 : W6.heap.size ≤ qk := HLK.out
            refine hK.out _ _ (HSB.out _ (HBV.out.setCell (p := ⟨qk, 0, none⟩) HLK.out _)) (fun hHeld => ?_)
            clear hK K
            try simp only [Act.put, List.setIfInBounds_toArray, List.set_cons_zero, List.set_cons_succ]
            refine wpAnyH_done (by kernel_rfl) ?_ _
            dsimp only [onlyN]
            obtain ⟨zy, _⟩ : ∃ z : Nat, z = 0 := ⟨0, rfl⟩
            obtain ⟨zz, _⟩ : ∃ z : Nat, z = 0 := ⟨0, rfl⟩
            exact ⟨qk, zy, zz, rfl, by rw [set_row HKK.out]; rfl, HBV.out.setCell (p := ⟨qk, 0, none⟩) HLK.out _, HLK.out⟩
        case hq =>
          rintro qk zy1 zz1 W7 ⟨hqk, hb7, hqk6⟩
          have hn7 := HN6.out.below HX.out HTO.out hb7
          have hb27 := HB26.out.trans (hb7.mono HB26.out.size)
          have HI7 : Hid (Inv st.nodes st.got W7) := Lib.hid (HTO.out.kept _ _ _ _ HI2.out fun k c t _ _ _ e => (hb27.block k (Array.getElem?_eq_some_iff.1 e).1).trans e)
          have HX7 := Lib.hid (heap_later HX6.out hb7 (Array.getElem?_eq_some_iff.1 HX6.out).1); have HQ7 := Lib.hid (heap_later HQ6.out hb7 (Array.getElem?_eq_some_iff.1 HQ6.out).1)
          have K07 := Lib.hid (heap_later K06.out hb7 (Array.getElem?_eq_some_iff.1 K06.out).1); have K27 := Lib.hid (heap_later K26.out hb7 (Array.getElem?_eq_some_iff.1 K26.out).1)
          have HN7 := Lib.hid hn7; have HK7 := Lib.hid (HK6.out.below hb7); have HQK := Lib.hid hqk
          have z6 : w.heap.size + 3 ≤ W6.heap.size := by have := HB26.out.size; omega
          have hxl2 := HLX.out
          have z7 : w.heap.size + 3 ≤ W7.heap.size := by have := hb7.size; have := HB26.out.size; omega
          have kk : W7.cell? ⟨qk, 0, none⟩ = some (.int .i64 (labelD p.doms.length g)) := by rw [cell_of_row _ _ _ _ _ _ hqk]; rfl
          clear hn7 hqk hb7 hb27 HX6 HQ6 HN6 HK6 K06 K26 HSB HB26 HI2 HN2 c5 RIG
          generalize Value.agg (natsV f).toArray = u31
          generalize Value.agg (natsV g).toArray = u42
          generalize Value.agg (propC _ _ f _ _).toArray = u32
          generalize Value.agg #[Value.slice da p.doms.length dc, Value.slice ra p.rules.length rc] = u30
          rcases label_cases g p.doms.length with ⟨hl, hall⟩ | ⟨c, hl, hc, hc2⟩
          · rw [hl] at kk ⊢
            have HLB := Lib.hid hl; have HALL := Lib.hid hall
            clear hl hall HQK
            go_upto_region 12 with fail
            refine abs_wp (fun W8 => W8.heap[W7.heap.size]? = some (.cells #[.slice none 0 0] 39 (0, 0)) ∧ Below W7.heap.size W7 W8 ∧ W7.heap.size + 1 = W8.heap.size) ⟨heap_new0 _ _, Below.new1 _ _, by simp⟩ ?_
            rintro W8 ⟨kl, hb8, hs8⟩
            clear kk
            have g0 := heap_later K07.out hb8 (Array.getElem?_eq_some_iff.1 K07.out).1
            have gs := heap_later HN7.out.blk hb8 (Array.getElem?_eq_some_iff.1 HN7.out.blk).1
            have c0 : W8.cell? ⟨w.heap.size, 0, none⟩ = some (.pointer (some ⟨s, 0, none⟩)) := by rw [cell_of_row _ _ _ _ _ _ g0]; rfl
            have cs : W8.cell? ⟨s, 0, none⟩ = some (.slice da p.doms.length dc) := by rw [cell_of_row _ _ _ _ _ _ gs]; rfl
            have HB8 := Lib.hid hb8; have KL := Lib.hid kl
            have hn8 := HPP.out.2.1
            clear g0 gs hb8 kl
            go_wp2_with fail
            clear c0 cs
            refine wp_loop (fun a Wz => a.tmps.size = 94 ∧ ∃ (i : Nat) (Ds : List Nat) (lv : Value), (a.tmps.getD 2 undef = .pointer (some ⟨w.heap.size, 0, none⟩) ∧ a.tmps.getD 4 undef = .pointer (some ⟨w.heap.size + 1 + 1, 0, none⟩) ∧ a.tmps.getD 5 undef = .pointer (some ⟨qx, 0, none⟩) ∧ a.tmps.getD 7 undef = .pointer (some ⟨W7.heap.size, 0, none⟩) ∧ a.tmps.getD 51 undef = .int .i64 p.doms.length ∧ a.tmps.getD 52 undef = .int .i64 i) ∧
                a.defers = Ds.map mark ∧ i ≤ p.doms.length ∧ Wz.heap[W7.heap.size]? = some (.cells #[lv] 39 (0, 0)) ∧ Wz.ownsRow W7.heap.size 3 1 lv (solD i g).length (intsV (solD i g)) ∧ Below W7.heap.size W7 Wz ∧ W8.heap.size ≤ Wz.heap.size ∧ Ds.Nodup ∧ (∀ D ∈ Ds, W7.heap.size ≤ D ∧ Wz.heap[D]? = some (.deferred (some []))))
              (fun a _ => p.doms.length - (intOf (a.tmps.getD 52 undef)).toNat) ?h0 ?round
            case h0 =>
              exact ⟨rfl, 0, [], _, ⟨rfl, rfl, rfl, rfl, rfl, rfl⟩, rfl, Nat.zero_le _, KL.out, World.ownsRow_nil _ _ _ _, HB8.out, Nat.le_refl _, List.nodup_nil, fun D hD => by cases hD⟩
            case round =>
              rintro ⟨t, ds⟩ Wi ⟨hsz', i, Ds, lw, ⟨h2, h4, h5, h7, h51, h52⟩, hds, hi, hkl, hown, hbi, hsi, hnd, hD⟩
              obtain ⟨fr, rfl⟩ := nod_frame t hsz' h2 h4 h5 h7 h51 h52
              simp only at hds
              subst hds
              clear hsz' h2 h4 h5 h7 h51 h52
              by_cases hir : i < p.doms.length
              · have hx9 := heap_later HX7.out hbi (Array.getElem?_eq_some_iff.1 HX7.out).1
                have hq9 := heap_later HQ7.out hbi (Array.getElem?_eq_some_iff.1 HQ7.out).1
                have c5 : Wi.cell? ⟨qx, 0, none⟩ = some (.pointer (some ⟨xb, 0, none⟩)) := by rw [cell_of_row _ _ _ _ _ _ hq9]; rfl
                have cg := (propC_cells HGF.out.len hx9).2.2.1 i (by omega)
                have hd16 : nget g i < 65536 := HGF.out.lt i
                have hiI : (i : Int) < 8 := by omega
                have hsol := solD_le HGF.out i
                have HKL := Lib.hid hkl; have HOWN := Lib.hid hown; have HBI := Lib.hid hbi; have HND := Lib.hid hnd; have HD := Lib.hid hD
                clear hkl hown hbi hnd hD hx9 hq9
                go_wp2_with fail
                obtain ⟨d, hd⟩ : ∃ d, d = nget g i := ⟨_, rfl⟩
                rw [← hd]
                rw [← hd] at hd16
                refine (values_any d Wi).mono ?_
                rintro e w6 ⟨rfl, hw6⟩
                have kB : w6.heap[Wi.heap.size]? = some (.cells #[.int .u64 (d : Nat)] 56 (0, 0)) := by rw [← hw6]; exact heap_new0 _ _
                have hb6 : Below Wi.heap.size Wi w6 := by rw [← hw6]; exact Below.new1 _ _
                have hs6 : Wi.heap.size + 1 = w6.heap.size := by rw [← hw6]; simp
                have hlt : W7.heap.size < Wi.heap.size := by omega
                have hD6 : ∀ D ∈ Ds, W7.heap.size ≤ D ∧ D < Wi.heap.size ∧ w6.heap[D]? = some (.deferred (some [])) := fun D h => by
                  have h1 := HD.out D h
                  have h2 := (Array.getElem?_eq_some_iff.1 h1.2).1
                  exact ⟨h1.1, h2, heap_later h1.2 hb6 h2⟩
                have hov : ∀ k, lw.ownBlock = some k → k < Wi.heap.size := fun k hk => (HOWN.out.lt k hk).2
                have KB := Lib.hid kB; have HD6 := Lib.hid hD6; have HOV := Lib.hid hov; have HDD := Lib.hid hd
                have HL6 := Lib.hid (heap_later HKL.out hb6 hlt); have HO6 := Lib.hid (own_ck HOWN.out (CK.below hb6)); have HB6 := Lib.hid (HBI.out.trans (hb6.mono HBI.out.size))
                clear kB hb6 hw6 hD6 hov hd cg c5 HKL HOWN HBI HD
                go_wp2_with fail
                refine wpIn_wide.1 (rangeElems (n := 0) Wi.heap.size d rfl (Nat.lt_trans hd16 (by decide)) KB.out (by show Wi.heap.size ≠ 0; omega)
                  (fun pre Z => ∃ lz, Z.heap[W7.heap.size]? = some (.cells #[lz] 39 (0, 0)) ∧ Z.ownsRow W7.heap.size 3 1 lz ((solD i g).length + pre.length) (intsV (solD i g ++ pre.map natI)) ∧ (∀ q, lz.ownBlock = some q → q ≠ Wi.heap.size) ∧ Below W7.heap.size W7 Z ∧ w6.heap.size ≤ Z.heap.size ∧ (∀ D ∈ Ds, Z.heap[D]? = some (.deferred (some []))))
                  (fun _ _ _ => False)
                  (fun pre Z Z' ⟨lz, h1, h2, h3, h4, h5, h6⟩ ht => ⟨lz, ht.same _ _ h1 (by omega) (.inl (by omega)), own_touched h2 ht h3, h3, below_touched h4 ht (by omega) (by omega) (Nat.le_refl _), Nat.le_trans h5 ht.size, fun D hD => ht.same D _ (h6 D hD) (by have := (HD6.out D hD).2.1; omega) (.inl (by have := (HD6.out D hD).2.1; omega))⟩)
                  (fun _ _ _ _ h _ => h)
                  (fun pre Z ⟨lz, _, _, _, h4, _⟩ => HN7.out.tab.below h4 (by omega)) ⟨lw, HL6.out, by simpa using HO6.out, (fun q hq => by have := HOV.out q hq; omega), HB6.out, Nat.le_refl _, fun D hD => (HD6.out D hD).2.2⟩ ?rnd ?done (fun _ _ _ _ _ h _ => h.elim))
                case rnd =>
                  intro lp pre x rest Z hel
                  gi_wp2
                  refine ⟨trivial, ?_⟩
                  rintro V2 ⟨lz, h1, h2, h3, h4, h5, h6⟩ hBs0 hL2
                  have hx16 : x < 16 := elems16 hd16 (by rw [hel]; simp)
                  have hpl : pre.length ≤ 16 := by
                    have h := size16 hd16
                    unfold sizeD at h
                    rw [hel] at h
                    simp at h; omega
                  have tl : V2.cell? ⟨W7.heap.size, 0, none⟩ = some lz := by rw [cell_of_row _ _ _ _ _ _ h1]; rfl
                  obtain ⟨oa, oc, rfl⟩ := own_form h2
                  obtain ⟨i0, hin, hz0, hz1, hz2⟩ := info_parts info3
                  have hnw := Below.new1 V2 (.cells #[.int .i64 (x : Nat)] 3)
                  have HNW := Lib.hid hnw; have H1 := Lib.hid h1; have H2 := Lib.hid h2; have H3 := Lib.hid h3; have H4 := Lib.hid h4; have H6 := Lib.hid h6; have HBS0 := Lib.hid hBs0
                  clear hnw h1 h2 h3 h4 h6 hBs0 hel
                  gi_wp2_with (gi_at_builtin; refine wpListIn_append_own _ rfl _ _ 39 rfl W7.heap.size 3 i0 (.int .i64 0) 1 8 Tryz.underlying39 hin hz0 hz1 hz2 rfl (by decide) _ _ _ rfl (H2.out.alloc _) ⟨V2.heap.size, 0, none⟩ 1 1 (intsV [(x : Int)]) rfl rfl ?c1 ?c2 ?c3 ?c4 ?c5 ?_)
                  case c1 =>
                    intro q u hq
                    match q, hq with
                    | 0, hq => cases hq; rw [Addr.add_lit]; exact cell_of_one (heap_new0 V2 _)
                  case c2 => exact ints_one _
                  case c3 => unfold maxLen; omega
                  case c4 => omega
                  case c5 => simp; omega
                  intro v' V7 hown3 hgrow3 _
                  obtain ⟨g5, cp, rfl⟩ := Slice.own_succ hown3
                  rw [intsV_append] at hown3
                  have ho2 := own_ck H2.out (CK.below HNW.out)
                  have hl2 := heap_later H1.out HNW.out (Array.getElem?_eq_some_iff.1 H1.out).1
                  have e7 : V7.heap[W7.heap.size]? = some (.cells #[.slice oa ((solD i g).length + pre.length) oc] 39 (0, 0)) := (hgrow3.block _ (Array.getElem?_eq_some_iff.1 hl2).1 (fun hh => own_apart ho2 hl2 (by decide) _ hh.symm rfl)).trans hl2
                  have o7 : V7.cell? ⟨W7.heap.size, 0, none⟩ = some (.slice oa ((solD i g).length + pre.length) oc) := by rw [cell_of_row _ _ _ _ _ _ e7]; rfl
                  have f7 : V7.frozen? ⟨W7.heap.size, 0, none⟩ = false := by simp [World.frozen?, e7]
                  have hk6 : Keep Wi.heap.size w6.heap.size V2 (V2.alloc (.cells #[.int .i64 (x : Nat)] 3)) := (Keep.refl _ _ _).below HNW.out
                  have hk7 := hk6.grown ho2 hgrow3 H3.out
                  have HK8 := Lib.hid (hk7.setCell (p := ⟨W7.heap.size, 0, none⟩) (by show W7.heap.size ≠ Wi.heap.size; omega) (.slice (some ⟨g5, 0, none⟩) ((solD i g).length + pre.length + 1) cp))
                  obtain ⟨cB, hcB⟩ := HBS0.out
                  have hB7 := hk7 _ _ hcB (.inl rfl)
                  have HOB := Lib.hid (own_apart hown3 hB7 (by decide))
                  have hb7 := (H4.out.trans (HNW.out.mono H4.out.size)).grown hgrow3 (by have := H4.out.size; simp; omega) (fun q hq => by have := (ho2.lt q hq).1; omega)
                  have HB8 := Lib.hid (hb7.setCell (p := ⟨W7.heap.size, 0, none⟩) (Nat.le_refl _) (.slice (some ⟨g5, 0, none⟩) ((solD i g).length + pre.length + 1) cp))
                  have HS8 := Lib.hid (show w6.heap.size ≤ V7.heap.size by have h1 := hgrow3.size; rw [World.size_alloc] at h1; omega)
                  have hD8 : ∀ D ∈ Ds, (V7.setCell ⟨W7.heap.size, 0, none⟩ (.slice (some ⟨g5, 0, none⟩) ((solD i g).length + pre.length + 1) cp)).heap[D]? = some (.deferred (some [])) := fun D hD => by
                    have h3 := heap_old (o := .cells #[.int .i64 (x : Nat)] 3) (H6.out D hD)
                    have h4 := (hgrow3.block D (Array.getElem?_eq_some_iff.1 h3).1 (fun hh => own_other ho2 h3 (fun c f hh => by cases hh) _ hh.symm rfl)).trans h3
                    exact (Below.heap_setCell _ _ _ _ (fun hh => by have hh' : D = W7.heap.size := hh; subst hh'; rw [e7] at h4; cases h4)).trans h4
                  have HD8 := Lib.hid hD8
                  have HE7 := Lib.hid e7; have HOW3 := Lib.hid hown3
                  clear hown3 hgrow3 ho2 hl2 e7 hk6 hk7 hcB hB7 hb7 hD8 tl
                  gi_wp2
                  refine ⟨HK8.out, _, set_row HE7.out, ?_, HOB.out, HB8.out, by simpa [World.setCell] using HS8.out, HD8.out⟩
                  have h := own_setF HOW3.out HE7.out (o := 0) (x := .slice (some ⟨g5, 0, none⟩) ((solD i g).length + pre.length + 1) cp) (by decide)
                  rw [List.append_assoc] at h
                  simpa [natI, Nat.add_assoc] using h
                case done =>
                  rintro D V hDw ⟨lz, h1, h2, h3, h4, h5, h6⟩ hDm
                  have gD : ∀ D' ∈ D :: Ds, W7.heap.size ≤ D' ∧ V.heap[D']? = some (.deferred (some [])) := fun D' h => by
                    rcases List.mem_cons.1 h with rfl | h
                    · exact ⟨by omega, hDm⟩
                    · exact ⟨(HD6.out D' h).1, h6 D' h⟩
                  have gnd : (D :: Ds).Nodup := List.nodup_cons.2 ⟨fun h => by have := (HD6.out D h).2.1; omega, HND.out⟩
                  have h2' : V.ownsRow W7.heap.size 3 1 lz (solD (i + 1) g).length (intsV (solD (i + 1) g)) := by
                    rw [solD_succ, List.length_append, List.length_map, ← HDD.out]; exact h2
                  have GD := Lib.hid gD; have GND := Lib.hid gnd; have H1 := Lib.hid h1; have H2 := Lib.hid h2'; have H4 := Lib.hid h4
                  clear gD gnd h1 h2 h2' h3 h4 h6 hDm
                  go_wp2
                  refine ⟨⟨rfl, i + 1, D :: Ds, lz, ⟨rfl, rfl, rfl, rfl, rfl, by go_num⟩, rfl, hir, H1.out, H2.out, H4.out, by omega, GND.out, GD.out⟩, ?_⟩
                  simp [intOf]; omega
              · have hi2 : i = p.doms.length := by omega
                subst hi2
                have HKL := Lib.hid hkl; have HOWN := Lib.hid hown; have HBI := Lib.hid hbi; have HND := Lib.hid hnd; have HD := Lib.hid hD
                clear hkl hown hbi hnd hD
                have hb7s := HBI.out.size
                have h0 := heap_later K07.out HBI.out (Array.getElem?_eq_some_iff.1 K07.out).1
                have h2b := heap_later K27.out HBI.out (Array.getElem?_eq_some_iff.1 K27.out).1
                have hni := HN7.out.below HX.out HTO.out HBI.out
                have hii : Inv st.nodes st.got Wi := HTO.out.kept _ _ _ _ HI7.out fun k c t _ _ _ e => (HBI.out.block k (Array.getElem?_eq_some_iff.1 e).1).trans e
                have hsc : ∀ Y : World, Below Wi.heap.size Wi Y → Y.cell? ⟨w.heap.size, 0, none⟩ = some (.pointer (some ⟨s, 0, none⟩)) ∧ Y.cell? ⟨s, 3, none⟩ = some (foundV F qo qm) := fun Y hY => by
                  have a0 := heap_later h0 hY (Array.getElem?_eq_some_iff.1 h0).1
                  have a1 := heap_later hni.blk hY (Array.getElem?_eq_some_iff.1 hni.blk).1
                  exact ⟨by rw [cell_of_row _ _ _ _ _ _ a0]; rfl, by rw [cell_of_row _ _ _ _ _ _ a1]; rfl⟩
                have hslen := solD_length HGF.out HEMF.out hn8 HALL.out p.doms.length (Nat.le_refl _)
                have hbase : base ≤ W7.heap.size := HN7.out.base
                have HR : Hid (nodeD p fnd (k + 1) f st = ((fnd st.got (solD p.doms.length g)).1, { nodes := st.nodes + 1, opn := st.opn, got := (fnd st.got (solD p.doms.length g)).2 })) := Lib.hid (by
                  unfold nodeD; rw [if_neg h2000]; dsimp only; rw [← HG.out, if_neg (by rw [HEMF.out]; decide), HLB.out, if_pos (by decide)])
                have H0 := Lib.hid h0; have HSC := Lib.hid hsc; have HNI := Lib.hid hni; have HII := Lib.hid hii; have HKI := Lib.hid (HK7.out.below (HBI.out.mono (Nat.le_refl _))); have H2B := Lib.hid h2b; have HSL := Lib.hid hslen
                clear h0 h2b hni hii hsc hslen
                go_wp2_with fail
                refine wp_region_held_n (S := fun Y => Y.cell? ⟨w.heap.size, 0, none⟩ = some (.pointer (some ⟨s, 0, none⟩)) ∧ Y.cell? ⟨s, 3, none⟩ = some (foundV F qo qm)) (by kernel_rfl) (HSC.out _ (Below.drewn (Below.refl _ _))) (fun hHeld => ?_)
                change wpAnyH _ _ nodCOps _ _ _ _ _ _
                refine abs_anyHS (fun Y => Below Wi.heap.size Wi Y) (Below.drewn (Below.refl _ _)) hHeld ?_
                clear hHeld
                rintro V hbV hHeld
                have HBV := Lib.hid hbV
                clear hbV
                refine wpAnyH_take (i := 0) (oi := { dst := some 68, op := Op.load 91 (Operand.tmp 2), type := 91, pos := "search.go:114", after := #[], guard := none }) (v := ?_) rfl (by kernel_rfl) (by kernel_rfl) (by kernel_rfl) (fun _ _ _ h => h) (Or.inl ⟨by kernel_rfl, ?_⟩) hHeld ?_
                rotate_left
                · intro w hSw
                  try dsimp only at hSw
                  obtain ⟨hs0, hs1⟩ := hSw
                  go_simp
                  try with_reducible rfl
                try simp only [Act.put, List.setIfInBounds_toArray, List.set_cons_zero, List.set_cons_succ]
                refine wpAnyH_take (i := 1) (oi := { dst := some 69, op := Op.nilCheck (Operand.tmp 68), type := 0, pos := "search.go:114", after := #[{ on := 0, ground := Ground.data }], guard := none }) (v := ?_) rfl (by kernel_rfl) (by kernel_rfl) (by kernel_rfl) (fun _ _ _ h => h) (Or.inl ⟨by kernel_rfl, ?_⟩) hHeld ?_
                rotate_left
                · intro w hSw
                  try dsimp only at hSw
                  obtain ⟨hs0, hs1⟩ := hSw
                  go_simp
                  try with_reducible rfl
                try simp only [Act.put, List.setIfInBounds_toArray, List.set_cons_zero, List.set_cons_succ]
                refine wpAnyH_take (i := 2) (oi := { dst := some 70, op := Op.fieldAddr 93 (Operand.tmp 69) 2, type := 0, pos := "search.go:114", after := #[{ on := 1, ground := Ground.data }], guard := none }) (v := ?_) rfl (by kernel_rfl) (by kernel_rfl) (by kernel_rfl) (fun _ _ _ h => h) (Or.inl ⟨by kernel_rfl, ?_⟩) hHeld ?_
                rotate_left
                · intro w hSw
                  try dsimp only at hSw
                  obtain ⟨hs0, hs1⟩ := hSw
                  go_simp
                  try with_reducible rfl
                try simp only [Act.put, List.setIfInBounds_toArray, List.set_cons_zero, List.set_cons_succ]
                refine wpAnyH_take (i := 3) (oi := { dst := some 71, op := Op.load 61 (Operand.tmp 70), type := 61, pos := "search.go:114", after := #[{ on := 2, ground := Ground.data }], guard := none }) (v := ?_) rfl (by kernel_rfl) (by kernel_rfl) (by kernel_rfl) (fun _ _ _ h => h) (Or.inl ⟨by kernel_rfl, ?_⟩) hHeld ?_
                rotate_left
                · intro w hSw
                  try dsimp only at hSw
                  obtain ⟨hs0, hs1⟩ := hSw
                  go_simp
                  try with_reducible rfl
                try simp only [Act.put, List.setIfInBounds_toArray, List.set_cons_zero, List.set_cons_succ]
                have tl : V.cell? ⟨W7.heap.size, 0, none⟩ = some lw := by rw [cell_of_row _ _ _ _ _ _ (heap_later HKL.out HBV.out (Array.getElem?_eq_some_iff.1 HKL.out).1)]; rfl
                refine wpAnyH_ready (rs := [4]) (by kernel_rfl) (by simp) ?_
                refine AllReadyH.cons (o := { dst := some 72, op := Op.load 39 (Operand.tmp 7), type := 39, pos := "search.go:114", after := #[], guard := none }) rfl (fun K hK => ?_) AllReadyH.nil
                go_simp
                refine hK.out _ _ (hHeld) (fun hHeld => ?_)
                clear hK K
                try simp only [Act.put, List.setIfInBounds_toArray, List.set_cons_zero, List.set_cons_succ]
                clear tl
                refine wpAnyH_ready (rs := [5]) (by kernel_rfl) (by simp) ?_
                refine AllReadyH.cons (o := { dst := some 73, op := Op.call { callee := Callee.value (Operand.tmp 71), args := #[Operand.tmp 72], argTypes := #[39] }, type := 4, pos := "search.go:114", after := #[{ on := 3, ground := Ground.data }, { on := 4, ground := Ground.data }], guard := none }) rfl (fun K hK => ?_) AllReadyH.nil
                unfold foundV
                go_simp
                rw [HTO.out.enters]
                go_simp
                have hVs := HBV.out.size
                refine (HTO.out.call st.nodes st.got V (solD p.doms.length g) lw W7.heap.size (by omega) (HTO.out.kept _ _ _ _ HII.out fun k c t _ _ _ e => (HBV.out.block k (Array.getElem?_eq_some_iff.1 e).1).trans e) hbase (own_ck HOWN.out (CK.below HBV.out)) HSL.out (by omega)).mono ?_
                rintro e V1 ⟨rfl, hi1, hk1⟩
                have hkV := HKI.out.below HBV.out
                have hk1' : KeptT 39 (Two s qo) base V V1 := hk1.weaken (fun q _ hh => .inr hh) (.inl (Nat.le_refl _))
                have g0 := hk1.same _ _ (heap_later H0.out HBV.out (Array.getElem?_eq_some_iff.1 H0.out).1) (by show ¬ w.heap.size = qo; omega) (.inr (nT (by decide)))
                have g2 := hk1.same _ _ (heap_later H2B.out HBV.out (Array.getElem?_eq_some_iff.1 H2B.out).1) (by show ¬ w.heap.size + 1 + 1 = qo; omega) (.inr (nT (by decide)))
                have gs := hk1.same _ _ (heap_later HNI.out.blk HBV.out (Array.getElem?_eq_some_iff.1 HNI.out.blk).1) (by show ¬ s = qo; exact HX.out.ne) (.inr (nT (by decide)))
                have hnV := HNI.out.below HX.out HTO.out HBV.out
                have hn1 : SNow p (.slice da p.doms.length dc) (.slice ra p.rules.length rc) (foundV F qo qm) s B base Inv (⟨st.nodes + 1, st.opn, (fnd st.got (solD p.doms.length g)).2⟩ : Sx σ) V1 := hnV.move HX.out hk1' gs hi1
                have hD1 : ∀ D ∈ Ds, V1.heap[D]? = some (.deferred (some [])) := fun D hd => by
                  have h1 := HD.out D hd
                  exact hk1.same _ _ (heap_later h1.2 HBV.out (Array.getElem?_eq_some_iff.1 h1.2).1) (by show ¬ D = qo; omega) (.inr trivial)
                have r1 : V1.cell? ⟨w.heap.size + 1 + 1, 0, none⟩ = some (.bool false) := by rw [cell_of_row _ _ _ _ _ _ g2]; rfl
                have fr1 : V1.frozen? ⟨w.heap.size + 1 + 1, 0, none⟩ = false := by simp [World.frozen?, g2]
                have hs1 : V1.cell? ⟨w.heap.size, 0, none⟩ = some (.pointer (some ⟨s, 0, none⟩)) ∧ V1.cell? ⟨s, 3, none⟩ = some (foundV F qo qm) := ⟨by rw [cell_of_row _ _ _ _ _ _ g0]; rfl, by rw [cell_of_row _ _ _ _ _ _ gs]; rfl⟩
                have hs2 : ∀ u, (V1.setCell ⟨w.heap.size + 1 + 1, 0, none⟩ u).cell? ⟨w.heap.size, 0, none⟩ = some (.pointer (some ⟨s, 0, none⟩)) ∧ (V1.setCell ⟨w.heap.size + 1 + 1, 0, none⟩ u).cell? ⟨s, 3, none⟩ = some (foundV F qo qm) := fun u => by
                  have a0 := (Below.heap_setCell V1 ⟨w.heap.size + 1 + 1, 0, none⟩ u w.heap.size (by show w.heap.size ≠ w.heap.size + 1 + 1; omega)).trans g0
                  have a1 := (Below.heap_setCell V1 ⟨w.heap.size + 1 + 1, 0, none⟩ u s (by show s ≠ w.heap.size + 1 + 1; omega)).trans gs
                  exact ⟨by rw [cell_of_row _ _ _ _ _ _ a0]; rfl, by rw [cell_of_row _ _ _ _ _ _ a1]; rfl⟩
                have hn2 := hn1.setB HX.out HTO.out (o := 0) g2 (by omega) (.bool (fnd st.got (solD p.doms.length g)).1)
                have hk2 := (hkV.trans hk1').setNew (p := ⟨w.heap.size + 1 + 1, 0, none⟩) (by show w.heap.size ≤ w.heap.size + 1 + 1; omega) (.bool (fnd st.got (solD p.doms.length g)).1)
                have hD2 : ∀ D ∈ Ds, w.heap.size ≤ D ∧ (V1.setCell ⟨w.heap.size + 1 + 1, 0, none⟩ (.bool (fnd st.got (solD p.doms.length g)).1)).heap[D]? = some (.deferred (some [])) := fun D hd => ⟨by have := (HD.out D hd).1; omega, (Below.heap_setCell _ _ _ _ (fun hh => by have hh' : D = w.heap.size + 1 + 1 := hh; have := (HD.out D hd).1; omega)).trans (hD1 D hd)⟩
                have HN2' := Lib.hid hn2; have HK2' := Lib.hid hk2; have HD2 := Lib.hid hD2; have HS2 := Lib.hid hs2; have HG2 := Lib.hid g2
                clear hi1 hk1 hk1' hkV g0 g2 gs hnV hn1 hD1 hn2 hk2 hD2 hs2 hHeld
                go_wp2_with fail
                refine hK.out _ _ (hs1) (fun hHeld => ?_)
                clear hK K
                try simp only [Act.put, List.setIfInBounds_toArray, List.set_cons_zero, List.set_cons_succ]
                refine wpAnyH_ready (rs := [6]) (by kernel_rfl) (by simp) ?_
                refine AllReadyH.cons (o := { dst := none, op := Op.store 4 (Operand.tmp 4) (Operand.tmp 73), type := 0, pos := "search.go:114", after := #[{ on := 5, ground := Ground.data }, { on := 5, ground := Ground.chain }, { on := 0, ground := Ground.phase }, { on := 1, ground := Ground.phase }, { on := 2, ground := Ground.phase }, { on := 3, ground := Ground.phase }, { on := 4, ground := Ground.phase }, { on := 5, ground := Ground.phase }], guard := none }) rfl (fun K hK => ?_) AllReadyH.nil
                go_simp
                refine hK.out _ _ (HS2.out _) (fun hHeld => ?_)
                clear hK K
                try simp only [Act.put, List.setIfInBounds_toArray, List.set_cons_zero, List.set_cons_succ]
                refine wpAnyH_done (by kernel_rfl) ?_ _
                dsimp only [onlyN]
                clear hs1 hHeld
                go_wp2
                show LeavesInM _ _ _ _ _ _ (Ds.map mark) .returning _
                refine leaves_marks (L := w.heap.size) Ds _ HND.out HD2.out (fun w' hb' hck => ⟨results_cell1 rfl rfl (loadVar_one Tryz.underlying4 rfl (hck.cell (World.cell?_setCell_same _ _ _ r1))), ?_⟩)
                rw [HR.out]
                exact NodeP.fin HN2'.out HTO.out HK2'.out hb' hck
          · rw [hl] at kk ⊢
            have hq' := HQK.out
            rw [hl] at hq'
            have HQK := Lib.hid hq'
            clear hq'
            have hn8 := HPP.out.2.1
            have cx : W7.cell? ⟨qx, 0, none⟩ = some (.pointer (some ⟨xb, 0, none⟩)) := by rw [cell_of_row _ _ _ _ _ _ HQ7.out]; rfl
            have cg := (propC_cells HGF.out.len HX7.out).2.2.1 c (by omega)
            have hcI : (c : Int) < 8 := by omega
            have hd16 : nget g c < 65536 := HGF.out.lt c
            obtain ⟨stp, hstp⟩ : ∃ stp : Nat → Sx σ → Bool × Sx σ, stp = fun v s => nodeD p fnd k (g.set c (bitN v)) s := ⟨_, rfl⟩
            obtain ⟨s1, hs1⟩ : ∃ s1 : Sx σ, s1 = { st with nodes := st.nodes + 1 } := ⟨_, rfl⟩
            have HR : Hid (nodeD p fnd (k + 1) f st = goD stp (elems (nget g c)) s1) := Lib.hid (by
              rw [hstp, hs1, nodeD_succ, if_neg h2000, ← HG.out, if_neg (by rw [HEMF.out]; decide), hl, if_neg (by omega), Int.toNat_natCast])
            have hn7' := HN7.out
            rw [← hs1] at hn7'
            have HN7S := Lib.hid hn7'
            have hs1n : s1.nodes ≤ 2000 := by rw [hs1]; show st.nodes + 1 ≤ 2000; omega
            have zqx : qx < W7.heap.size := (Array.getElem?_eq_some_iff.1 HQ7.out).1
            have zqk : qk < W7.heap.size := (Array.getElem?_eq_some_iff.1 HQK.out).1
            have zxb : xb < W7.heap.size := (Array.getElem?_eq_some_iff.1 HX7.out).1
            clear hn7' HI7
            go_wp2_with fail
            refine wp_region_held_n (S := fun V => V.cell? ⟨qx, 0, none⟩ = some (.pointer (some ⟨xb, 0, none⟩)) ∧ V.cell? ⟨qk, 0, none⟩ = some (.int .i64 (c : Nat)) ∧ V.cell? ⟨xb, 2 + c, none⟩ = some (.int .u64 (nget g c : Nat))) (by kernel_rfl) ⟨cx, kk, cg⟩ (fun hHeld => ?_)
            change wpAnyH _ _ nodDOps _ _ _ _ _ _
            refine abs_anyHS (fun V => Below W7.heap.size W7 V) (Below.drewn (Below.refl _ _)) hHeld ?_
            clear hHeld
            rintro V hbV hHeld
            have HBV := Lib.hid hbV
            have hsV := hbV.size
            clear hbV cx kk cg
            refine wpAnyH_take (i := 0) (oi := { dst := some 74, op := Op.load 75 (Operand.tmp 5), type := 75, pos := "search.go:116", after := #[], guard := none }) (v := ?_) rfl (by kernel_rfl) (by kernel_rfl) (by kernel_rfl) (fun _ _ _ h => h) (Or.inl ⟨by kernel_rfl, ?_⟩) hHeld ?_
            rotate_left
            · intro w hSw
              try dsimp only at hSw
              obtain ⟨hs0, hs1, hs2⟩ := hSw
              go_simp
              try with_reducible rfl
            try simp only [Act.put, List.setIfInBounds_toArray, List.set_cons_zero, List.set_cons_succ]
            refine wpAnyH_take (i := 1) (oi := { dst := some 75, op := Op.load 3 (Operand.tmp 6), type := 3, pos := "search.go:116", after := #[], guard := none }) (v := ?_) rfl (by kernel_rfl) (by kernel_rfl) (by kernel_rfl) (fun _ _ _ h => h) (Or.inl ⟨by kernel_rfl, ?_⟩) hHeld ?_
            rotate_left
            · intro w hSw
              try dsimp only at hSw
              obtain ⟨hs0, hs1, hs2⟩ := hSw
              go_simp
              try with_reducible rfl
            try simp only [Act.put, List.setIfInBounds_toArray, List.set_cons_zero, List.set_cons_succ]
            refine wpAnyH_take (i := 2) (oi := { dst := some 76, op := Op.nilCheck (Operand.tmp 74), type := 0, pos := "search.go:116", after := #[{ on := 0, ground := Ground.data }], guard := none }) (v := ?_) rfl (by kernel_rfl) (by kernel_rfl) (by kernel_rfl) (fun _ _ _ h => h) (Or.inl ⟨by kernel_rfl, ?_⟩) hHeld ?_
            rotate_left
            · intro w hSw
              try dsimp only at hSw
              obtain ⟨hs0, hs1, hs2⟩ := hSw
              go_simp
              try with_reducible rfl
            try simp only [Act.put, List.setIfInBounds_toArray, List.set_cons_zero, List.set_cons_succ]
            refine wpAnyH_take (i := 3) (oi := { dst := some 77, op := Op.fieldAddr 80 (Operand.tmp 76) 1, type := 0, pos := "search.go:116", after := #[{ on := 2, ground := Ground.data }], guard := none }) (v := ?_) rfl (by kernel_rfl) (by kernel_rfl) (by kernel_rfl) (fun _ _ _ h => h) (Or.inl ⟨by kernel_rfl, ?_⟩) hHeld ?_
            rotate_left
            · intro w hSw
              try dsimp only at hSw
              obtain ⟨hs0, hs1, hs2⟩ := hSw
              go_simp
              try with_reducible rfl
            try simp only [Act.put, List.setIfInBounds_toArray, List.set_cons_zero, List.set_cons_succ]
            refine wpAnyH_take (i := 4) (oi := { dst := some 78, op := Op.indexAddr 77 (Operand.tmp 77) (Operand.tmp 75), type := 0, pos := "search.go:116", after := #[{ on := 3, ground := Ground.data }, { on := 1, ground := Ground.data }], guard := none }) (v := ?_) rfl (by kernel_rfl) (by kernel_rfl) (by kernel_rfl) (fun _ _ _ h => h) (Or.inl ⟨by kernel_rfl, ?_⟩) hHeld ?_
            rotate_left
            · intro w hSw
              try dsimp only at hSw
              obtain ⟨hs0, hs1, hs2⟩ := hSw
              go_simp
              try with_reducible rfl
            try simp only [Act.put, List.setIfInBounds_toArray, List.set_cons_zero, List.set_cons_succ]
            refine wpAnyH_take (i := 5) (oi := { dst := some 79, op := Op.load 56 (Operand.tmp 78), type := 56, pos := "search.go:116", after := #[{ on := 4, ground := Ground.data }], guard := none }) (v := ?_) rfl (by kernel_rfl) (by kernel_rfl) (by kernel_rfl) (fun _ _ _ h => h) (Or.inl ⟨by kernel_rfl, ?_⟩) hHeld ?_
            rotate_left
            · intro w hSw
              try dsimp only at hSw
              obtain ⟨hs0, hs1, hs2⟩ := hSw
              go_simp
              try with_reducible rfl
            try simp only [Act.put, List.setIfInBounds_toArray, List.set_cons_zero, List.set_cons_succ]
            refine wpAnyH_ready (rs := [6]) (by kernel_rfl) (by simp) ?_
            refine AllReadyH.cons (o := { dst := some 80, op := Op.call { callee := Callee.value (Operand.func 70), args := #[Operand.tmp 79], argTypes := #[56] }, type := 107, pos := "search.go:116", after := #[{ on := 5, ground := Ground.data }], guard := none }) rfl (fun K hK => ?_) AllReadyH.nil
            go_simp
            obtain ⟨d, hd⟩ : ∃ d, d = nget g c := ⟨_, rfl⟩
            rw [← hd] at hd16 HR ⊢
            refine (values_any d V).mono ?_
            rintro e w5 ⟨rfl, hw5⟩
            have kB : w5.heap[V.heap.size]? = some (.cells #[.int .u64 (d : Nat)] 56 (0, 0)) := by rw [← hw5]; exact heap_new0 _ _
            have hb5 : Below V.heap.size V w5 := by rw [← hw5]; exact Below.new1 _ _
            have hs5 : V.heap.size + 1 = w5.heap.size := by rw [← hw5]; simp
            clear hw5
            go_wp2_with fail
            refine hK.out _ _ (⟨(hb5.cell (p := ⟨qx, 0, none⟩) (by show qx < V.heap.size; omega)).trans hHeld.1, (hb5.cell (p := ⟨qk, 0, none⟩) (by show qk < V.heap.size; omega)).trans hHeld.2.1, (hb5.cell (p := ⟨xb, 2 + c, none⟩) (by show xb < V.heap.size; omega)).trans hHeld.2.2⟩) (fun hHeld => ?_)
            clear hK K
            try simp only [Act.put, List.setIfInBounds_toArray, List.set_cons_zero, List.set_cons_succ]
            refine wpAnyH_done (by kernel_rfl) ?_ _
            clear hHeld
            dsimp only [onlyN]
            have hb75 : Below W7.heap.size W7 w5 := HBV.out.trans (hb5.mono (by omega))
            have HN5 := Lib.hid (HN7S.out.below HX.out HTO.out hb75)
            have HX5 := Lib.hid (heap_later HX7.out hb75 zxb); have HQ5 := Lib.hid (heap_later HQ7.out hb75 zqx); have HK5 := Lib.hid (heap_later HQK.out hb75 zqk)
            have K05 := Lib.hid (heap_later K07.out hb75 (by omega)); have K25 := Lib.hid (heap_later K27.out hb75 (by omega)); have HKP5 := Lib.hid (HK7.out.below hb75)
            have KB := Lib.hid kB; have HDD := Lib.hid hd; have HSTP := Lib.hid hstp
            have hbase5 := HN5.out.base
            have hsB : s ≠ V.heap.size := by omega
            have hoB : qo ≠ V.heap.size := by omega
            have hBB : B ≤ V.heap.size := by omega
            have hj0 : JN (.slice da p.doms.length dc) (.slice ra p.rules.length rc) (foundV F qo qm) s base V.heap.size (Thr s qo V.heap.size) Inv s1 w5 w5 := ⟨HN5.out.blk, SNow.inv_hole HN5.out.inv HTO.out kB, KeptT.refl _⟩
            have hE3 : ∀ q, Thr s qo V.heap.size q → B ≤ q := fun q hh => by have := HX.out.les; have := HX.out.leo; rcases hh with hh | hh | hh <;> omega
            have hE4 : ∀ q, Fou s qo V.heap.size (w.heap.size + 1 + 1) q → B ≤ q := fun q hh => by have := HX.out.les; have := HX.out.leo; rcases hh with hh | hh | hh | hh <;> omega
            have HJ0 := Lib.hid hj0
            clear kB hb5 hb75 hj0 hd hstp HX7 HQ7 HQK K07 K27 HK7 HN7 HN7S HBV
            go_wp2_with fail
            refine wpIn_wide.1 (rangeElems (n := 0) V.heap.size d rfl (Nat.lt_trans hd16 (by decide)) KB.out (by show V.heap.size ≠ 0; omega)
              (fun pre Z => (goD stp pre s1).1 = true ∧ (goD stp pre s1).2.nodes ≤ 2000 ∧ JN (.slice da p.doms.length dc) (.slice ra p.rules.length rc) (foundV F qo qm) s base V.heap.size (Thr s qo V.heap.size) Inv (goD stp pre s1).2 w5 Z)
              (fun c0 pre Z => c0 = Code.ret ∧ ∃ st2 : Sx σ, goD stp (elems d) s1 = (false, st2) ∧ JN (.slice da p.doms.length dc) (.slice ra p.rules.length rc) (foundV F qo qm) s base V.heap.size (Fou s qo V.heap.size (w.heap.size + 1 + 1)) Inv st2 w5 Z ∧ Z.cell? ⟨w.heap.size + 1 + 1, 0, none⟩ = some (.bool false))
              (fun pre Z Z' h ht => ⟨h.1, h.2.1, h.2.2.touched HTO.out (.inr (.inr rfl)) (by omega) hsB ht⟩)
              (fun c0 pre Z Z' ⟨h1, st2, h2, h3, h4⟩ ht => ⟨h1, st2, h2, h3.touched HTO.out (.inr (.inr (.inl rfl))) (by omega) hsB ht, cell_touched h4 ht (by omega)⟩)
              (fun pre Z h => (h.2.2.snow HTO.out HN5.out HX.out hE3).tab) ⟨rfl, hs1n, HJ0.out⟩ ?round ?done ?stop)
            case round =>
              intro lp pre x rest Z hel
              gi_wp2
              refine ⟨trivial, ?_⟩
              rintro V2 ⟨hgo, hnd, hj⟩ hBs0 hL2
              obtain ⟨st2, hst2⟩ : ∃ st2, st2 = (goD stp pre s1).2 := ⟨_, rfl⟩
              rw [← hst2] at hnd hj
              have hx16 : x < 16 := elems16 hd16 (by rw [hel]; simp)
              have hx64 : x < 64 := by omega
              have thr : ∀ q, w.heap.size ≤ q → q < V.heap.size → ¬ Thr s qo V.heap.size q := fun q h1 h2 hh => by rcases hh with hh | hh | hh <;> omega
              have q5 := hj.kp.same _ _ HQ5.out (thr _ (by omega) (by omega)) (.inr (nT (by decide)))
              have x5 := hj.kp.same _ _ HX5.out (thr _ (by omega) (by omega)) (.inr (nT (by decide)))
              have k5 := hj.kp.same _ _ HK5.out (thr _ (by omega) (by omega)) (.inr (nT (by decide)))
              have k0 := hj.kp.same _ _ K05.out (thr _ (by omega) (by omega)) (.inr (nT (by decide)))
              have k2 := hj.kp.same _ _ K25.out (thr _ (by omega) (by omega)) (.inr (nT (by decide)))
              have cx : V2.cell? ⟨qx, 0, none⟩ = some (.pointer (some ⟨xb, 0, none⟩)) := by rw [cell_of_row _ _ _ _ _ _ q5]; rfl
              have RG := Lib.hid (prop_range HGF.out.len x5)
              have RI : Hid ((Tryz.prog.info? 77).map (·.size) = some (natsV g).length) := Lib.hid (by rw [natsV_length, HGF.out.len]; kernel_rfl)
              have hn0 := heap_new0 V2 (.cells (natsV zero8).toArray 77)
              have HSF := Lib.hid (field_store HGF.out.len hn0 rfl)
              have hsn := hj.snow HTO.out HN5.out HX.out hE3
              have hV2s : w5.heap.size ≤ V2.heap.size := hj.kp.size
              have HSN := Lib.hid hsn; have HJ := Lib.hid hj; have HST2 := Lib.hid hst2; have HEL := Lib.hid hel; have HBS0 := Lib.hid hBs0; have HGO := Lib.hid hgo; have HKK := Lib.hid k5; have HK0 := Lib.hid k0; have HK2 := Lib.hid k2
              clear hsn hj hst2 hel hBs0 hgo q5 x5 k5 k0 k2 hn0 thr
              gi_wp2_with (first | (refine wpListIn_load_mid rfl 77 _ rfl _ _ rfl _ _ RG.out Tryz.underlying77 rfl RI.out ?_) | (
                 refine wpListIn_store_mid rfl 77 _ _ rfl _ _ _ rfl rfl HSF.out.1 HSF.out.2.1 (all_oneCell_toArray (natsV_one _)) ?_
                 generalize hW2 : World.setCells _ _ _ _ = V3
                 have k3 : V3.heap[V2.heap.size]? = some (.cells (natsV g).toArray 77 (0, 0)) := by rw [← hW2]; exact HSF.out.2.2
                 have hb3 : Below V2.heap.size V2 V3 := by rw [← hW2]; exact below_setCells (Nat.le_refl _) _ _ _ (Below.new1 _ _)
                 clear hW2
                 have ck3 : V3.cell? ⟨qk, 0, none⟩ = some (.int .i64 (c : Nat)) := by rw [cell_of_row _ _ _ _ _ _ (heap_later HKK.out hb3 (Array.getElem?_eq_some_iff.1 HKK.out).1)]; rfl
                 have zk3 : qk < V3.heap.size := by have := hb3.size; have := (Array.getElem?_eq_some_iff.1 HKK.out).1; omega))
              have e3 : V3.cell? ⟨V2.heap.size, c, none⟩ = some (.int .u64 (nget g c : Nat)) := by
                rw [cell_of_row _ _ _ _ _ _ k3, List.getElem?_toArray, natsV_get g c (by rw [HGF.out.len]; omega)]
              have z3 : V2.heap.size < V3.heap.size := (Array.getElem?_eq_some_iff.1 k3).1
              have HK3 := Lib.hid k3; have HB3 := Lib.hid hb3
              clear k3 hb3 cx
              simp only [Act.put]
              refine wpIn_region_qbt 4 (by kernel_rfl) (by kernel_rfl) (by rintro ⟨a, w, h⟩; exact h) ?_
              simp only [List.take_succ_cons, List.take_zero, List.drop_succ_cons, List.drop_zero]
              repeat go_big_quiet_step ((exact Gives.quiet (Gives.of_same (one_any x _ hx64))))
              refine wpQuiet_nil ?_
              intro V4 hb4
              have e4 := (hb4.cell (p := ⟨V2.heap.size, c, none⟩) z3).trans e3
              have k4 := heap_later HK3.out hb4 z3
              have fe4 : V4.frozen? ⟨V2.heap.size, c, none⟩ = false := by simp [World.frozen?, k4]
              have hset : (V4.setCell ⟨V2.heap.size, c, none⟩ (.int .u64 (bitN x : Nat))).heap[V2.heap.size]? = some (.cells (natsV (g.set c (bitN x))).toArray 77 (0, 0)) := by
                rw [set_row k4, List.setIfInBounds_toArray]; unfold natsV; rw [List.map_set]; rfl
              have HSET := Lib.hid hset; have HB4 := Lib.hid (HB3.out.trans (hb4.mono HB3.out.size))
              clear hb4 k4 hset e3 ck3 zk3
              go_wp2_with fail
              refine abs_in (fun V5 => V5.heap[V2.heap.size]? = some (.cells (natsV (g.set c (bitN x))).toArray 77 (0, 0)) ∧ Below V2.heap.size V2 V5) ⟨HSET.out, HB4.out.setCell (p := ⟨V2.heap.size, c, none⟩) (Nat.le_refl _) _⟩ ?_
              clear e4 fe4 HSET HB4 HB3 HK3
              rintro V5 ⟨k5, hb5⟩
              have k0 := heap_later HK0.out hb5 (Array.getElem?_eq_some_iff.1 HK0.out).1
              have c0 : V5.cell? ⟨w.heap.size, 0, none⟩ = some (.pointer (some ⟨s, 0, none⟩)) := by rw [cell_of_row _ _ _ _ _ _ k0]; rfl
              have zz5 : w.heap.size < V5.heap.size := (Array.getElem?_eq_some_iff.1 k0).1
              have RG5 := Lib.hid (row_rangeL k5)
              have RI5 : Hid ((Tryz.prog.info? 77).map (·.size) = some (natsV (g.set c (bitN x))).length) := Lib.hid (by rw [natsV_length, List.length_set, HGF.out.len]; kernel_rfl)
              have HCH := Lib.hid (HGF.out.child c hx16)
              have HLT := Lib.hid (Nat.lt_of_lt_of_le (total_child HGF.out (by omega) hc2 hx16) (Nat.le_trans hgt (Nat.le_of_lt_succ hk)))
              have hsn5 := HSN.out.below HX.out HTO.out hb5
              have HB5 := Lib.hid hb5; have HSN5 := Lib.hid hsn5
              clear k0 k5 hb5 hsn5
              gi_wp2_with (refine wpListIn_load_mid rfl 77 _ rfl _ _ rfl _ _ RG5.out Tryz.underlying77 rfl RI5.out ?_)
              refine (CallsIn.inRound lp (callsIn_wide.2 (HIH.out (g.set c (bitN x)) st2 V5 HLT.out HCH.out hnd HSN5.out))).mono ?_
              rintro e V6 ⟨rfl, hblk, hinv, hk6⟩
              have hstx : nodeD p fnd k (g.set c (bitN x)) st2 = stp x st2 := by rw [HSTP.out]
              have hle := nodeD_le p fnd k (g.set c (bitN x)) st2 hnd
              rw [hstx] at hblk hinv hle ⊢
              have hk26 := (KeptT.of_below (T := 39) (E := Two s qo) (base := base) HB5.out).trans hk6
              have hj6 := HJ.out.next HTO.out (st' := (stp x st2).2) (fun q hh => by rcases hh with hh | hh; exact .inl hh; exact .inr (.inl hh)) hk26 hblk hinv HBS0.out (Ne.symm hsB) (Ne.symm hoB)
              have hkeep : Keep V.heap.size w5.heap.size V2 V6 := keep_kept hk26 (by decide) HBS0.out (Ne.symm hsB) (Ne.symm hoB) (by omega) (by omega)
              have k26 := hk26.same _ _ HK2.out (two_no (by omega) (by omega)) (.inr (nT (by decide)))
              have HJ6 := Lib.hid hj6; have HKEEP := Lib.hid hkeep; have HK26 := Lib.hid k26
              clear hblk hinv hk6 hk26 hj6 hkeep k26 c0 HSN5
              cases hr : (stp x st2).1
              case true =>
                have hgo2 : goD stp (pre ++ [x]) s1 = (true, (stp x st2).2) := by
                  rw [goD_append, if_pos HGO.out, ← HST2.out]
                  show (if (stp x st2).1 = true then (true, (stp x st2).2) else (false, (stp x st2).2)) = _
                  rw [if_pos hr]
                have HG2 := Lib.hid hgo2
                clear hr hgo2
                gi_wp2
                exact ⟨HKEEP.out, by rw [HG2.out], by rw [HG2.out]; exact hle, by rw [HG2.out]; exact HJ6.out⟩
              case false =>
                have hgo2 : goD stp (elems d) s1 = (false, (stp x st2).2) := by
                  rw [HEL.out, goD_append, if_pos HGO.out, ← HST2.out]
                  show (if (stp x st2).1 = true then goD stp rest (stp x st2).2 else (false, (stp x st2).2)) = _
                  rw [if_neg (by rw [hr]; decide)]
                have r6 : V6.cell? ⟨w.heap.size + 1 + 1, 0, none⟩ = some (.bool false) := by rw [cell_of_row _ _ _ _ _ _ HK26.out]; rfl
                have fr6 : V6.frozen? ⟨w.heap.size + 1 + 1, 0, none⟩ = false := by simp [World.frozen?, HK26.out]
                have HG2 := Lib.hid hgo2
                clear hr hgo2
                gi_wp2
                exact ⟨HKEEP.out.setCell (by show w.heap.size + 1 + 1 ≠ V.heap.size; omega) _, rfl, _, HG2.out, HJ6.out.res HTO.out HK26.out (by omega) _, World.cell?_setCell_same _ _ _ r6⟩
            case done =>
              rintro D Z hDw ⟨hgo, hnd, hj⟩ hDm
              have thr : ¬ Thr s qo V.heap.size (w.heap.size + 1 + 1) := fun hh => by rcases hh with hh | hh | hh <;> omega
              have k2 := hj.kp.same _ _ K25.out thr (.inr (nT (by decide)))
              have r2 : Z.cell? ⟨w.heap.size + 1 + 1, 0, none⟩ = some (.bool false) := by rw [cell_of_row _ _ _ _ _ _ k2]; rfl
              have fr2 : Z.frozen? ⟨w.heap.size + 1 + 1, 0, none⟩ = false := by simp [World.frozen?, k2]
              obtain ⟨stf, hstf⟩ : ∃ stf, stf = (goD stp (elems d) s1).2 := ⟨_, rfl⟩
              have hnf : nodeD p fnd (k + 1) f st = (true, stf) := by rw [HR.out, hstf]; exact Prod.ext hgo rfl
              rw [← hstf] at hj
              have hsn := (hj.snow HTO.out HN5.out HX.out hE3).setB HX.out HTO.out (o := 0) k2 (by omega) (.bool true)
              have hkz := ((HKP5.out.thr hj.kp (fun q hh => by rcases hh with hh | hh | hh; exact .inl (.inl hh); exact .inl (.inr hh); exact .inr (by omega))).setNew (p := ⟨w.heap.size + 1 + 1, 0, none⟩) (by show w.heap.size ≤ w.heap.size + 1 + 1; omega) (.bool true))
              have HSNF := Lib.hid hsn; have HKZ := Lib.hid hkz; have HDm := Lib.hid hDm; have HNF := Lib.hid hnf
              clear hsn hkz hDm hj hgo hnf hstf k2 thr
              go_wp2_with fail
              have hdm' := (Below.heap_setCell Z ⟨w.heap.size + 1 + 1, 0, none⟩ (.bool true) D (by show D ≠ w.heap.size + 1 + 1; omega)).trans HDm.out
              have hck : CK (Z.setCell ⟨w.heap.size + 1 + 1, 0, none⟩ (.bool true)) ((Z.setCell ⟨w.heap.size + 1 + 1, 0, none⟩ (.bool true)).putObj D (.deferred none)) := ⟨fun k c t f e => (World.putObj_heap_other (fun hk => by subst hk; rw [hdm'] at e; cases e)).trans e, by simp⟩
              refine bodyM_ret1 D hdm' (results_cell1 rfl rfl (loadVar_one Tryz.underlying4 rfl (hck.cell (World.cell?_setCell_same _ _ _ r2)))) rfl ?_
              rw [HNF.out]
              exact NodeP.fin HSNF.out HTO.out HKZ.out (below_putObj (Below.refl _ _) (by omega) _) hck
            case stop =>
              rintro D c0 pre Z hDw ⟨rfl, st2, hgo, hj, hcell⟩ hDm
              have hnf : nodeD p fnd (k + 1) f st = (false, st2) := by rw [HR.out]; exact hgo
              have hsn := hj.snow HTO.out HN5.out HX.out hE4
              have hkz := HKP5.out.thr hj.kp (fun q hh => by rcases hh with hh | hh | hh | hh; exact .inl (.inl hh); exact .inl (.inr hh); exact .inr (by omega); exact .inr (by omega))
              have hck : CK Z (Z.putObj D (.deferred none)) := ⟨fun k c t f e => (World.putObj_heap_other (fun hk => by subst hk; rw [hDm] at e; cases e)).trans e, by simp⟩
              have HSNF := Lib.hid hsn; have HKZ := Lib.hid hkz; have HDm := Lib.hid hDm; have HNF := Lib.hid hnf; have HCK := Lib.hid hck; have HCELL := Lib.hid hcell
              clear hsn hkz hDm hj hgo hnf hck hcell
              gi_wp2
              refine bodyM_ret1 D HDm.out (results_cell1 rfl rfl (loadVar_one Tryz.underlying4 rfl (HCK.out.cell HCELL.out))) rfl ?_
              rw [HNF.out]
              exact NodeP.fin HSNF.out HTO.out HKZ.out (below_putObj (Below.refl _ _) (by omega) _) HCK.out
end Go.Proofs.YtdmmegmkdhinjaaGreatDoor

namespace Go.Proofs.YtdmmegmkdhinjaaGreatDoor
open Go Go.RowKit
attribute [local go_sem] cell_grow u64_sAnd u64_sOr u64_sDiff sDiff_all zeqI zneI sAnd_bit_zero sAnd_bit_zeroN sAnd_bit_nonzero

def solS (p : Dp) (most : Int) : Sx (List (List Int)) := searchD p (solveF most) []
def solE (p : Dp) (most : Int) : Int := if probD p && inB most 1 200 then (if (solS p most).opn then 8 else 0) else 2
def solN (p : Dp) (most : Int) : Nat := if solE p most = 0 then (solS p most).nodes else 0
def solL (p : Dp) (most : Int) : List (List Int) := if solE p most = 0 then (solS p most).got else []
def SolveP (p : Dp) (most : Int) (w : World) (e : Ending) (w' : World) : Prop := ∃ lv, e = .returned (.tuple #[lv, .int .i64 (solN p most : Nat), .int .i64 (solE p most)]) ∧ LOwn w' w.heap.size lv (solL p most) ∧ Below w.heap.size w w'
theorem SolveP.bad {p : Dp} {most : Int} {w w' : World} {c : Int} (h : solE p most = c) (hc : c ≠ 0) (hb : Below w.heap.size w w') : SolveP p most w (.returned (.tuple #[.slice none 0 0, .int .i64 0, .int .i64 c])) w' := by
  have h1 : solN p most = 0 := by unfold solN; rw [if_neg (by omega)]
  have h2 : solL p most = [] := by unfold solL; rw [if_neg (by omega)]
  exact ⟨_, by rw [h, h1]; rfl, by rw [h2]; exact LOwn.nil _ _, hb⟩
theorem build_srch (ba : Option Addr) (bn bc : Nat) (ra : Option Addr) (rn rc : Nat) (fv : Value) (hf : fv.oneCell' = true) (hz : ∃ a b c, fv = .func a b c) (w : World) :
    (Instr.build 93 #[(0, .agg #[.slice ba bn bc, .slice ra rn rc]), (2, fv)]).run Tryz.prog w = .ok (.agg #[.slice ba bn bc, .slice ra rn rc, .int .i64 0, fv, .bool false]) w := by
  obtain ⟨a, b, c, rfl⟩ := hz
  exact run_build w _ _ _ (by kernel_rfl)
set_option maxRecDepth 100000 in
set_option maxHeartbeats 4000000 in
theorem solve_any (p : Dp) (most : Int) (dv rv : Value) (w : World) {B : Nat} (hdv : Us w B dv p.doms) (hrv : DRls w B rv p.rules) (hB0 : 0 < B) (hB : B ≤ w.heap.size) (hT : Tab w) :
    Calls Tryz.prog 21 #[.agg #[dv, rv], .int .i64 most] w (SolveP p most w) := by
  have HDV := Lib.hid hdv; have HRV := Lib.hid hrv; have HT := Lib.hid hT
  obtain ⟨da, dc, rfl⟩ := hdv.slice
  obtain ⟨ra, rc, rfl⟩ := hrv.slice
  clear hdv hrv hT
  go_enter Tryz.func21, Tryz.ntmps21
  go_upto_region 1 with fail
  refine abs_wp (fun W => W.heap[w.heap.size]? = some (.cells #[.slice da p.doms.length dc, .slice ra p.rules.length rc] 25 (0, 0)) ∧ W.heap[w.heap.size + 1]? = some (.cells #[.int .i64 most] 3 (0, 0)) ∧ Below w.heap.size w W) ⟨(heap_new2 w _ _).1, (heap_new2 w _ _).2, Below.new2 w _ _⟩ ?_
  rintro W ⟨k0, k1, hb⟩
  have z0 : w.heap.size < W.heap.size := (Array.getElem?_eq_some_iff.1 k0).1
  have z1 : w.heap.size + 1 < W.heap.size := (Array.getElem?_eq_some_iff.1 k1).1
  have c0 : W.cell? ⟨w.heap.size, 0, none⟩ = some (.slice da p.doms.length dc) := by rw [cell_of_row _ _ _ _ _ _ k0]; rfl
  have c1 : W.cell? ⟨w.heap.size, 1, none⟩ = some (.slice ra p.rules.length rc) := by rw [cell_of_row _ _ _ _ _ _ k0]; rfl
  have K0 := Lib.hid k0; have K1 := Lib.hid k1; have HB := Lib.hid hb
  clear k0 k1 hb
  go_wp2_with fail
  refine (check_any p _ _ _ (HDV.out.below HB.out hB) (HRV.out.below HB.out hB) (Nat.le_trans hB HB.out.size)).mono ?_
  rintro e w2 ⟨rfl, hb2⟩
  have hbw2 := HB.out.trans (hb2.mono HB.out.size)
  have k02 := heap_later K0.out hb2 z0
  have k12 := heap_later K1.out hb2 z1
  have z02 : w.heap.size < w2.heap.size := (Array.getElem?_eq_some_iff.1 k02).1
  have z12 : w.heap.size + 1 < w2.heap.size := (Array.getElem?_eq_some_iff.1 k12).1
  have d0 : w2.cell? ⟨w.heap.size, 0, none⟩ = some (.slice da p.doms.length dc) := by rw [cell_of_row _ _ _ _ _ _ k02]; rfl
  have d1 : w2.cell? ⟨w.heap.size, 1, none⟩ = some (.slice ra p.rules.length rc) := by rw [cell_of_row _ _ _ _ _ _ k02]; rfl
  have d2 : w2.cell? ⟨w.heap.size + 1, 0, none⟩ = some (.int .i64 most) := by rw [cell_of_row _ _ _ _ _ _ k12]; rfl
  have K02 := Lib.hid k02; have K12 := Lib.hid k12; have HB2 := Lib.hid hbw2
  clear k02 k12 hb2 hbw2 c0 c1 K0 K1 HB z0 z1
  cases hok : probD p
  case false =>
    have HE : Hid (solE p most = 2) := Lib.hid (by unfold solE; rw [hok]; rfl)
    unfold errOf
    go_wp2
    refine bodyPost_ret (v := .tuple #[.slice none 0 0, .int .i64 0, .int .i64 2]) (by simp [results, Tryz.results21, go_sem]) rfl (SolveP.bad HE.out (by decide) HB2.out)
  case true =>
    have HOK := Lib.hid hok; have HPP := Lib.hid (probD_parts hok)
    unfold errOf
    clear hok
    go_wp2_with fail
    refine (within_any _ _ _ _).mono ?_
    rintro e w3 ⟨rfl, rfl⟩
    cases hin : inB most 1 200
    case false =>
      have HE : Hid (solE p most = 2) := Lib.hid (by unfold solE; rw [hin, Bool.and_false]; rfl)
      clear hin
      go_wp2
      refine bodyPost_ret (v := .tuple #[.slice none 0 0, .int .i64 0, .int .i64 2]) (by simp [results, Tryz.results21, go_sem]) rfl (SolveP.bad HE.out (by decide) HB2.out)
    case true =>
      have HIN := Lib.hid hin
      clear hin
      obtain ⟨fv, hfv⟩ : ∃ fv, fv = foundV 56 w3.heap.size (w.heap.size + 1) := ⟨_, rfl⟩
      have hbs := build_srch da p.doms.length dc ra p.rules.length rc fv (by rw [hfv]; rfl) ⟨_, _, _, by rw [hfv]; rfl⟩
      have HBS := Lib.hid hbs
      clear hbs
      unfold foundV at hfv
      go_wp2_with (
        refine wpList_ran rfl _ (exec_build 93 #[(0, .tmp 17), (2, .tmp 18)] rfl (by simp [Act.eval]) (by rw [← hfv]; exact HBS.out _)) ?_
        simp only [Act.put, List.setIfInBounds_toArray, List.set_cons_zero, List.set_cons_succ])
      refine abs_calls (fun W4 => W4.heap[w3.heap.size]? = some (.cells #[.slice none 0 0] 46 (0, 0)) ∧ W4.heap[w3.heap.size + 1]? = some (.cells #[.slice da p.doms.length dc, .slice ra p.rules.length rc, .int .i64 0, foundV 56 w3.heap.size (w.heap.size + 1), .bool false] 93 (0, 0)) ∧ Below w3.heap.size w3 W4 ∧ w3.heap.size + 2 = W4.heap.size) ⟨(heap_new2 w3 _ _).1, (heap_new2 w3 _ _).2, Below.new2 w3 _ _, by simp⟩ ?_
      rintro W4 ⟨j0, j1, hb4, hs4⟩
      have hbw4 := HB2.out.trans (hb4.mono HB2.out.size)
      have g1 := heap_later K12.out hb4 z12
      have g0 := heap_later K02.out hb4 z02
      have HBW4 := Lib.hid hbw4; have J0 := Lib.hid j0; have J1 := Lib.hid j1; have G1 := Lib.hid g1
      clear hb4 hbw4 j0 j1 g1 g0 d0 d1 d2 K02 K12 hfv HBS
      refine (fieldOf_any p _ _ W4 (HDV.out.below HBW4.out hB) (Nat.le_trans hB HBW4.out.size) HPP.out.1 HPP.out.2.1 _ p.rules.length rc rfl).mono ?_
      rintro e w5 ⟨rfl, hb5⟩
      have hbw5 := HBW4.out.trans (hb5.mono HBW4.out.size)
      have h0 := heap_later J0.out hb5 (by omega)
      have h1 := heap_later J1.out hb5 (by omega)
      have hq := heap_later G1.out hb5 (by omega)
      have hs5 := hb5.size
      have hsn : SNow p (.slice da p.doms.length dc) (.slice ra p.rules.length rc) (foundV 56 w3.heap.size (w.heap.size + 1)) (w3.heap.size + 1) B w5.heap.size (SolInv most w3.heap.size (w.heap.size + 1) w5.heap.size) (⟨0, false, []⟩ : Sx (List (List Int))) w5 :=
        ⟨HDV.out.below hbw5 hB, HRV.out.below hbw5 hB, HT.out.below hbw5 (by omega), h1, ⟨Nat.le_refl _, ⟨_, h0, LOwn.nil _ _⟩, hq⟩, Nat.le_refl _⟩
      have hx : SFix (w3.heap.size + 1) w3.heap.size B w5.heap.size := ⟨hB0, by omega, by omega, by omega, by omega⟩
      have HND := Lib.hid (node_any p HOK.out _ _ (w3.heap.size + 1) w3.heap.size (w.heap.size + 1) B w5.heap.size 56 (solveF most) _ hx (solve_told _ most _ _ _) (totalD (padD p.doms) + 1) (padD p.doms) ⟨0, false, []⟩ w5 (Nat.lt_succ_self _) (padD_ok HOK.out) (Nat.zero_le _) hsn)
      have HBW5 := Lib.hid hbw5; have HX := Lib.hid hx
      clear h0 h1 hq hsn hb5 hbw5 hx J0 J1 G1 HBW4
      go_wp2_with fail
      refine HND.out.mono ?_
      rintro e w6 ⟨rfl, hblk, ⟨-, ⟨sv, ho6, hso6⟩, -⟩, hk6⟩
      obtain ⟨S, hS⟩ : ∃ S, S = solS p most := ⟨_, rfl⟩
      have hS2 : (nodeD p (solveF most) (totalD (padD p.doms) + 1) (padD p.doms) ⟨0, false, []⟩).2 = S := hS.symm
      rw [hS2] at hblk hso6
      have hbf := HBW5.out.trans (hk6.toBelow (B := w.heap.size) (by omega) (by omega) (fun q hq hh => by rcases hh with hh | hh <;> omega))
      obtain ⟨sa, sc, rfl⟩ := hso6.form
      have s1 : w6.cell? ⟨w3.heap.size + 1, 2, none⟩ = some (.int .i64 (S.nodes : Nat)) := by rw [cell_of_row _ _ _ _ _ _ hblk]; rfl
      have s3 : w6.cell? ⟨w3.heap.size + 1, 4, none⟩ = some (.bool S.opn) := by rw [cell_of_row _ _ _ _ _ _ hblk]; rfl
      have so : w6.cell? ⟨w3.heap.size, 0, none⟩ = some (.slice sa S.got.length sc) := by rw [cell_of_row _ _ _ _ _ _ ho6]; rfl
      have zo : w3.heap.size < w6.heap.size := (Array.getElem?_eq_some_iff.1 ho6).1
      have zs : w3.heap.size + 1 < w6.heap.size := (Array.getElem?_eq_some_iff.1 hblk).1
      have HBF := Lib.hid hbf; have HSO := Lib.hid hso6; have HS := Lib.hid hS
      clear hblk ho6 hso6 hk6 hbf hS hS2 HND
      cases hop : S.opn
      case true =>
        have HE : Hid (solE p most = 8) := Lib.hid (by unfold solE; rw [HOK.out, HIN.out, ← HS.out, hop]; rfl)
        rw [hop] at s3
        go_wp2
        refine bodyPost_ret (v := .tuple #[.slice none 0 0, .int .i64 0, .int .i64 8]) (by simp [results, Tryz.results21, go_sem]) rfl (SolveP.bad HE.out (by decide) HBF.out)
      case false =>
        have he : solE p most = 0 := by unfold solE; rw [HOK.out, HIN.out, ← HS.out, hop]; rfl
        have HE : Hid (solE p most = 0 ∧ solN p most = S.nodes ∧ solL p most = S.got) := Lib.hid ⟨he, by unfold solN; rw [if_pos he, HS.out], by unfold solL; rw [if_pos he, HS.out]⟩
        rw [hop] at s3
        clear he
        go_wp2_with fail
        refine wp_region_qb (by kernel_rfl) (by kernel_rfl) ?_
        repeat go_big_quiet_step (fail)
        refine wpQuiet_nil ?_
        intro w7 hb7
        have hfin : SolveP p most w (.returned (.tuple #[.slice sa S.got.length sc, .int .i64 (S.nodes : Nat), .int .i64 0])) w7 := ⟨_, by rw [HE.out.1, HE.out.2.1], by rw [HE.out.2.2]; exact (HSO.out.ck (CK.below hb7)).mono (by have := HBW5.out.size; omega), HBF.out.trans (hb7.mono HBF.out.size)⟩
        have HFIN := Lib.hid hfin
        clear hfin hb7
        go_wp2
        exact bodyPost_ret (v := .tuple #[.slice sa S.got.length sc, .int .i64 (S.nodes : Nat), .int .i64 0]) (by simp [results, Tryz.results21, go_sem]) rfl HFIN.out
end Go.Proofs.YtdmmegmkdhinjaaGreatDoor
