/- The rules of a core, without one. -/
import Derived.Test.YtilbbnjfaoldoaaGreatDoorBF
import Derived.Test.YtilbbnjfaoldoaaGreatDoorPlainN
import Derived.Test.YtilbbnjfaoldoaaGreatDoorBG
namespace Go.Proofs.YtilbbnjfaoldoaaGreatDoor
open Go Go.RowKit
attribute [local go_sem] cell_grow u64_sAnd u64_sOr u64_sDiff sDiff_all zeqI zneI sAnd_bit_zero sAnd_bit_zeroN sAnd_bit_nonzero rowOf_grow rowOk_grow rowOf_alloc rowOk_alloc

/-- A list without the element at a place. -/
def eraseI {α : Type} (l : List α) (i : Int) : List α := if i < 0 then l else l.eraseIdx i.toNat
theorem eraseI_snoc {α : Type} (l : List α) (x : α) (i : Int) : eraseI (l ++ [x]) i = if i = (l.length : Int) then eraseI l i else eraseI l i ++ [x] := by
  unfold eraseI
  by_cases h : i < 0
  · have h2 : ¬ i = (l.length : Int) := by omega
    rw [if_pos h, if_neg h2, if_pos h]
  · rw [if_neg h, if_neg h]
    by_cases h2 : i = (l.length : Int)
    · have h3 : i.toNat = l.length := by omega
      rw [if_pos h2, h3, List.eraseIdx_append_of_length_le (Nat.le_refl _), Nat.sub_self, List.eraseIdx_of_length_le (Nat.le_refl _)]
      simp
    · rw [if_neg h2]
      by_cases h3 : i.toNat < l.length
      · rw [List.eraseIdx_append_of_lt_length h3]
      · rw [List.eraseIdx_of_length_le (by simp; omega), List.eraseIdx_of_length_le (by omega)]
theorem eraseI_take {ns : List Nat} {k : Nat} (h : k < ns.length) (i : Int) : eraseI (ns.take (k + 1)) i = if i = (k : Int) then eraseI (ns.take k) i else eraseI (ns.take k) i ++ [ns[k]] := by
  rw [List.take_succ_eq_append_getElem h, eraseI_snoc]
  have : (ns.take k).length = k := by simp; omega
  rw [this]
theorem eraseI_length {α : Type} (l : List α) (i : Int) : (eraseI l i).length ≤ l.length := by
  unfold eraseI
  split
  · exact Nat.le_refl _
  · exact (List.eraseIdx_sublist l _).length_le
def chosenAOps : Array Oper := #[
  { dst := some 34, op := Op.fieldAddr 25 (Operand.tmp 7) 1, type := 0, pos := "outright.go:260", after := #[], guard := none },
  { dst := some 35, op := Op.load 23 (Operand.tmp 34), type := 23, pos := "outright.go:260", after := #[{ on := 0, ground := Ground.data }], guard := none },
  { dst := some 36, op := Op.fieldAddr 25 (Operand.tmp 3) 1, type := 0, pos := "outright.go:260", after := #[], guard := none },
  { dst := some 37, op := Op.load 23 (Operand.tmp 36), type := 23, pos := "outright.go:260", after := #[{ on := 2, ground := Ground.data }], guard := none },
  { dst := some 38, op := Op.move (Operand.tmp 9), type := 3, pos := "outright.go:260", after := #[], guard := none },
  { dst := some 39, op := Op.indexAddr 23 (Operand.tmp 37) (Operand.tmp 38), type := 0, pos := "outright.go:260", after := #[{ on := 3, ground := Ground.data }, { on := 4, ground := Ground.data }], guard := none },
  { dst := some 40, op := Op.load 62 (Operand.tmp 39), type := 62, pos := "outright.go:260", after := #[{ on := 5, ground := Ground.data }], guard := none },
  { dst := some 41, op := Op.buildSlice 23 1 #[(0, Operand.tmp 40)], type := 23, pos := "outright.go:260", after := #[{ on := 6, ground := Ground.data }], guard := none },
  { dst := some 42, op := Op.call { callee := Callee.builtin Builtin.append, args := #[Operand.tmp 35, Operand.tmp 41], argTypes := #[23, 23] }, type := 23, pos := "outright.go:260", after := #[{ on := 1, ground := Ground.data }, { on := 7, ground := Ground.data }], guard := none },
  { dst := some 43, op := Op.fieldAddr 25 (Operand.tmp 7) 1, type := 0, pos := "outright.go:260", after := #[{ on := 0, ground := Ground.phase }, { on := 1, ground := Ground.phase }, { on := 2, ground := Ground.phase }, { on := 3, ground := Ground.phase }, { on := 4, ground := Ground.phase }, { on := 5, ground := Ground.phase }, { on := 6, ground := Ground.phase }, { on := 7, ground := Ground.phase }, { on := 8, ground := Ground.phase }], guard := none },
  { dst := none, op := Op.store 23 (Operand.tmp 43) (Operand.tmp 42), type := 0, pos := "outright.go:260", after := #[{ on := 9, ground := Ground.data }, { on := 8, ground := Ground.data }, { on := 8, ground := Ground.chain }, { on := 0, ground := Ground.phase }, { on := 1, ground := Ground.phase }, { on := 2, ground := Ground.phase }, { on := 3, ground := Ground.phase }, { on := 4, ground := Ground.phase }, { on := 5, ground := Ground.phase }, { on := 6, ground := Ground.phase }, { on := 7, ground := Ground.phase }, { on := 8, ground := Ground.phase }], guard := none }]
set_option maxRecDepth 100000 in
set_option maxHeartbeats 4000000 in
theorem chosen_any (p : Prob) (ns : List Nat) (i : Int) (h12 : ns.length ≤ 12) (hn : ∀ n ∈ ns, n < p.rules.length) (hr12 : p.rules.length ≤ 12) (bv rv nv : Value) (w : World) {B : Nat} (hbv : Bnds w B bv p.bounds) (hrv : Rls w B rv p.rules) (hnv : Ints w B nv (ns.map natI)) (hB0 : 0 < B) (hB : B ≤ w.heap.size) :
    Calls Tryz.prog 14 #[.agg #[bv, rv], nv, .int .i64 i] w fun e w' => ∃ r', e = .returned (.agg #[bv, r']) ∧ Rls w' w'.heap.size r' (pick p (eraseI ns i)).rules ∧ Below w.heap.size w w' := by
  have HRV := Lib.hid hrv; have HNV := Lib.hid hnv; have HN := Lib.hid hn
  obtain ⟨ba, bc, rfl⟩ := hbv.slice
  obtain ⟨ra, rc, rfl⟩ := hrv.slice
  obtain ⟨na, nc, rfl⟩ := hnv.slice
  have hml : (ns.map natI).length = ns.length := by simp
  rw [hml] at HNV ⊢
  obtain ⟨_, a', c', hae, hnc', hcm', hrow⟩ := hnv
  cases hae
  have HROW := Lib.hid hrow
  obtain ⟨i0, hin, hz0, hz1, hz2⟩ := info_parts Tryz.info63
  clear hbv hrv hn hrow
  go_enter Tryz.func14, Tryz.ntmps14
  go_upto_region 2 with fail
  refine abs_wp (fun W => W.heap[w.heap.size]? = some (.cells #[.slice ba p.bounds.length bc, .slice ra p.rules.length rc] 25 (0, 0)) ∧ W.heap[w.heap.size + 1]? = some (.cells #[.slice none 0 0, .slice none 0 0] 25 (0, 0)) ∧ W.heap[w.heap.size + 1 + 1]? = some (.cells #[.slice ba p.bounds.length bc, .slice none 0 0] 25 (0, 0)) ∧ Below w.heap.size w W)
    ⟨(heap_new3 _ _ _ _).1, (heap_new3 _ _ _ _).2.1, (heap_new3 _ _ _ _).2.2, ((Below.new1 w _).alloc (by simp) _).alloc (by simp; omega) _⟩ ?_
  rintro W ⟨k0, k1, k2, hb⟩
  have K0 := Lib.hid k0; have K1 := Lib.hid k1; have K2 := Lib.hid k2; have HB := Lib.hid hb
  clear k0 k1 k2 hb
  go_wp2_with fail
  go_loopw [15] (fun j wr => ∃ k : Nat, ∃ qv, k ≤ ns.length ∧ j = .int .i64 k ∧ wr.heap[w.heap.size]? = some (.cells #[.slice ba p.bounds.length bc, .slice ra p.rules.length rc] 25 (0, 0)) ∧ wr.heap[w.heap.size + 1]? = some (.cells #[.slice none 0 0, .slice none 0 0] 25 (0, 0)) ∧ wr.heap[w.heap.size + 1 + 1]? = some (.cells #[.slice ba p.bounds.length bc, qv] 25 (0, 0)) ∧
    ROwn wr B (w.heap.size + 3) qv ((eraseI (ns.take k) i).map (rget p.rules)) ∧ Below w.heap.size w wr) (fun j _ => ns.length - (intOf j).toNat)
  case atStart =>
    have h00 : eraseI (ns.take 0) i = [] := by
      apply List.eq_nil_of_length_eq_zero
      have := eraseI_length (ns.take 0) i
      simp at this
      simpa using this
    refine ⟨0, _, Nat.zero_le _, rfl, K0.out, K1.out, K2.out, ?_, HB.out⟩
    rw [h00]
    exact ROwn.nil _ _ _
  case round =>
    clear K0 K1 K2 HB
    obtain ⟨k, qv, hk, rfl, k0, k1, k2, hro, hb⟩ := hrel
    have z2 : w.heap.size + 1 + 1 < wr.heap.size := (Array.getElem?_eq_some_iff.1 k2).1
    by_cases hlt : k < ns.length
    · obtain ⟨b, off, hna, hbB, hcell⟩ := HROW.out (by omega)
      subst hna
      have e0 : wr.cell? ⟨b, off + k, none⟩ = some (.int .i64 ((ns[k] : Nat) : Int)) := by
        rw [hb.cell (p := ⟨b, off + k, none⟩) (by show b < w.heap.size; omega), hcell k (by simp; exact hlt)]
        simp [iget, hlt, natI]
      have hnk := HN.out ns[k] (List.getElem_mem hlt)
      have hts := eraseI_take hlt i
      obtain ⟨n, hnn⟩ : ∃ n, n = ns[k] := ⟨_, rfl⟩
      rw [← hnn] at e0 hnk hts
      obtain ⟨rb, ro, vv, hra, hrb, hvv, q0, q1, q2, q3⟩ := (HRV.out.below hb hB).cells hnk
      subst hra
      obtain ⟨va, vc, rfl⟩ := hvv.slice
      have p1 : wr.cell? ⟨w.heap.size, 1, none⟩ = some (.slice (some ⟨rb, ro, none⟩) p.rules.length rc) := by rw [cell_of_row _ _ _ _ _ _ k0]; rfl
      have hn0 : (0 : Int) ≤ (n : Int) := by omega
      have hnl : (n : Int) < (p.rules.length : Int) := by omega
      by_cases hi : i = (k : Int)
      · have hi2 : (((k : Nat) : Int) != i) = false := by simp [hi]
        rw [if_pos hi] at hts
        have K0 := Lib.hid k0; have K1 := Lib.hid k1; have K2 := Lib.hid k2; have HRO := Lib.hid hro; have HB := Lib.hid hb; have HTS := Lib.hid hts
        clear hcell k0 k1 k2 hro hb hvv hts hnn q0 q1 q2 q3 hi
        go_wp2
        go_roundw
        case rel => exact ⟨k + 1, qv, by omega, by go_num, K0.out, K1.out, K2.out, by rw [HTS.out]; exact HRO.out, HB.out⟩
        case measure => simp [intOf]; omega
      · have hi2 : (((k : Nat) : Int) != i) = true := by
          rw [bne_iff_ne]; exact fun h => hi h.symm
        rw [if_neg hi] at hts
        have hts2 : (eraseI (ns.take (k + 1)) i).map (rget p.rules) = (eraseI (ns.take k) i).map (rget p.rules) ++ [rget p.rules n] := by rw [hts, List.map_append]; rfl
        obtain ⟨rs, hrs⟩ : ∃ rs, rs = (eraseI (ns.take k) i).map (rget p.rules) := ⟨_, rfl⟩
        have hrl : rs.length ≤ 12 := by rw [hrs, List.length_map]; have := eraseI_length (ns.take k) i; simp at this; omega
        rw [← hrs] at hro hts2
        have K0 := Lib.hid k0; have K1 := Lib.hid k1; have K2 := Lib.hid k2; have HRO := Lib.hid hro; have HB := Lib.hid hb; have HTS := Lib.hid hts2; have HVV := Lib.hid hvv
        clear hcell k0 k1 k2 hro hb hvv hts hts2 hnn hi hrs
        go_wp2_with fail
        refine wp_region_held_drew (S := fun V => V.cell? ⟨w.heap.size, 1, none⟩ = some (.slice (some ⟨rb, ro, none⟩) p.rules.length rc) ∧ V.cell? ⟨rb, ro + n * 4, none⟩ = some (.int .i64 (rget p.rules n).kind) ∧ V.cell? ⟨rb, ro + n * 4 + 1, none⟩ = some (.slice va (rget p.rules n).vars.length vc) ∧ V.cell? ⟨rb, ro + n * 4 + 2, none⟩ = some (.int .i64 (rget p.rules n).low) ∧ V.cell? ⟨rb, ro + n * 4 + 3, none⟩ = some (.int .i64 (rget p.rules n).high)) (by kernel_rfl) ⟨p1, q0, q1, q2, q3⟩ (fun hHeld => ?_)
        change wpAnyH _ _ chosenAOps _ _ _ _ _ _
        refine abs_anyHS (fun V => V.heap[w.heap.size]? = some (.cells #[.slice ba p.bounds.length bc, .slice (some ⟨rb, ro, none⟩) p.rules.length rc] 25 (0, 0)) ∧ V.heap[w.heap.size + 1]? = some (.cells #[.slice none 0 0, .slice none 0 0] 25 (0, 0)) ∧ V.heap[w.heap.size + 1 + 1]? = some (.cells #[.slice ba p.bounds.length bc, qv] 25 (0, 0)) ∧ ROwn V B (w.heap.size + 3) qv rs ∧ Below w.heap.size w V ∧ Ints V B (.slice va (rget p.rules n).vars.length vc) (rget p.rules n).vars)
          ⟨K0.out, K1.out, K2.out, HRO.out.ck (CK.below (Below.drewn (Below.refl _ _))), Below.drewn HB.out, HVV.out.ck (CK.below (Below.drewn (Below.refl _ _)))⟩ hHeld ?_
        clear hHeld K0 K1 K2 HRO HB p1 q0 q1 q2 q3
        rintro V ⟨kv0, kv1, kv2, ⟨cs, hc0, hcr⟩, hbv2, hvw⟩ hHeld
        obtain ⟨qa, qc, rfl⟩ := own_form hc0
        have zV2 : w.heap.size + 1 + 1 < V.heap.size := (Array.getElem?_eq_some_iff.1 kv2).1
        have zV0 : w.heap.size < V.heap.size := by omega
        have x1v : V.cell? ⟨w.heap.size + 1 + 1, 1, none⟩ = some (.slice qa rs.length qc) := by rw [cell_of_row _ _ _ _ _ _ kv2]; rfl
        have hn0' := hHeld
        have SL : Hid (∀ {Z : World}, Below V.heap.size V Z → Z.cell? ⟨w.heap.size, 1, none⟩ = some (.slice (some ⟨rb, ro, none⟩) p.rules.length rc) ∧ Z.cell? ⟨rb, ro + n * 4, none⟩ = some (.int .i64 (rget p.rules n).kind) ∧ Z.cell? ⟨rb, ro + n * 4 + 1, none⟩ = some (.slice va (rget p.rules n).vars.length vc) ∧ Z.cell? ⟨rb, ro + n * 4 + 2, none⟩ = some (.int .i64 (rget p.rules n).low) ∧ Z.cell? ⟨rb, ro + n * 4 + 3, none⟩ = some (.int .i64 (rget p.rules n).high)) := Lib.hid fun hz => ⟨(hz.cell (p := ⟨w.heap.size, 1, none⟩) zV0).trans hn0'.1, (hz.cell (p := ⟨rb, _, none⟩) (by show rb < V.heap.size; omega)).trans hn0'.2.1, (hz.cell (p := ⟨rb, _, none⟩) (by show rb < V.heap.size; omega)).trans hn0'.2.2.1, (hz.cell (p := ⟨rb, _, none⟩) (by show rb < V.heap.size; omega)).trans hn0'.2.2.2.1, (hz.cell (p := ⟨rb, _, none⟩) (by show rb < V.heap.size; omega)).trans hn0'.2.2.2.2⟩
        have SL2 : Hid (∀ {Z : World}, Below (w.heap.size + 3) V Z → Z.cell? ⟨w.heap.size, 1, none⟩ = some (.slice (some ⟨rb, ro, none⟩) p.rules.length rc) ∧ Z.cell? ⟨rb, ro + n * 4, none⟩ = some (.int .i64 (rget p.rules n).kind) ∧ Z.cell? ⟨rb, ro + n * 4 + 1, none⟩ = some (.slice va (rget p.rules n).vars.length vc) ∧ Z.cell? ⟨rb, ro + n * 4 + 2, none⟩ = some (.int .i64 (rget p.rules n).low) ∧ Z.cell? ⟨rb, ro + n * 4 + 3, none⟩ = some (.int .i64 (rget p.rules n).high)) := Lib.hid fun hz => ⟨(hz.cell (p := ⟨w.heap.size, 1, none⟩) (by show w.heap.size < w.heap.size + 3; omega)).trans hn0'.1, (hz.cell (p := ⟨rb, _, none⟩) (by show rb < w.heap.size + 3; omega)).trans hn0'.2.1, (hz.cell (p := ⟨rb, _, none⟩) (by show rb < w.heap.size + 3; omega)).trans hn0'.2.2.1, (hz.cell (p := ⟨rb, _, none⟩) (by show rb < w.heap.size + 3; omega)).trans hn0'.2.2.2.1, (hz.cell (p := ⟨rb, _, none⟩) (by show rb < w.heap.size + 3; omega)).trans hn0'.2.2.2.2⟩
        have SL3 : Hid (∀ (Z : World), Below (w.heap.size + 3) V Z → ∀ x, (Z.setCell ⟨w.heap.size + 1 + 1, 1, none⟩ x).cell? ⟨w.heap.size, 1, none⟩ = some (.slice (some ⟨rb, ro, none⟩) p.rules.length rc) ∧ (Z.setCell ⟨w.heap.size + 1 + 1, 1, none⟩ x).cell? ⟨rb, ro + n * 4, none⟩ = some (.int .i64 (rget p.rules n).kind) ∧ (Z.setCell ⟨w.heap.size + 1 + 1, 1, none⟩ x).cell? ⟨rb, ro + n * 4 + 1, none⟩ = some (.slice va (rget p.rules n).vars.length vc) ∧ (Z.setCell ⟨w.heap.size + 1 + 1, 1, none⟩ x).cell? ⟨rb, ro + n * 4 + 2, none⟩ = some (.int .i64 (rget p.rules n).low) ∧ (Z.setCell ⟨w.heap.size + 1 + 1, 1, none⟩ x).cell? ⟨rb, ro + n * 4 + 3, none⟩ = some (.int .i64 (rget p.rules n).high)) := Lib.hid fun Z hz x => by
          have h1 : ∀ b o, b ≠ w.heap.size + 1 + 1 → (Z.setCell ⟨w.heap.size + 1 + 1, 1, none⟩ x).cell? ⟨b, o, none⟩ = Z.cell? ⟨b, o, none⟩ := fun b o hb => World.cell?_of_block (Below.heap_setCell _ _ _ _ (by exact hb))
          rw [h1 _ _ (by omega), h1 _ _ (by omega), h1 _ _ (by omega), h1 _ _ (by omega), h1 _ _ (by omega)]
          exact SL2.out hz
        have KV0 := Lib.hid kv0; have KV1 := Lib.hid kv1; have KV2 := Lib.hid kv2; have HBV2 := Lib.hid hbv2; have HVW := Lib.hid hvw
        clear kv0 kv1 kv2 hbv2 hn0' hvw
        refine wpAnyH_take (i := 0) (oi := { dst := some 34, op := Op.fieldAddr 25 (Operand.tmp 7) 1, type := 0, pos := "outright.go:260", after := #[], guard := none }) (v := ?_) rfl (by kernel_rfl) (by kernel_rfl) (by kernel_rfl) (fun _ _ _ h => h) (Or.inl ⟨by rfl, ?_⟩) (by assumption) ?_
        rotate_left
        · intro w hSw
          try dsimp only at hSw
          obtain ⟨hs0, hs1, hs2, hs3, hs4⟩ := hSw
          go_simp
          try with_reducible rfl
        try simp only [Act.put, List.setIfInBounds_toArray, List.set_cons_zero, List.set_cons_succ]
        refine wpAnyH_take (i := 2) (oi := { dst := some 36, op := Op.fieldAddr 25 (Operand.tmp 3) 1, type := 0, pos := "outright.go:260", after := #[], guard := none }) (v := ?_) rfl (by kernel_rfl) (by kernel_rfl) (by kernel_rfl) (fun _ _ _ h => h) (Or.inl ⟨by rfl, ?_⟩) (by assumption) ?_
        rotate_left
        · intro w hSw
          try dsimp only at hSw
          obtain ⟨hs0, hs1, hs2, hs3, hs4⟩ := hSw
          go_simp
          try with_reducible rfl
        try simp only [Act.put, List.setIfInBounds_toArray, List.set_cons_zero, List.set_cons_succ]
        refine wpAnyH_take (i := 3) (oi := { dst := some 37, op := Op.load 23 (Operand.tmp 36), type := 23, pos := "outright.go:260", after := #[{ on := 2, ground := Ground.data }], guard := none }) (v := ?_) rfl (by kernel_rfl) (by kernel_rfl) (by kernel_rfl) (fun _ _ _ h => h) (Or.inl ⟨by rfl, ?_⟩) (by assumption) ?_
        rotate_left
        · intro w hSw
          try dsimp only at hSw
          obtain ⟨hs0, hs1, hs2, hs3, hs4⟩ := hSw
          go_simp
          try with_reducible rfl
        try simp only [Act.put, List.setIfInBounds_toArray, List.set_cons_zero, List.set_cons_succ]
        refine wpAnyH_take (i := 4) (oi := { dst := some 38, op := Op.move (Operand.tmp 9), type := 3, pos := "outright.go:260", after := #[], guard := none }) (v := ?_) rfl (by kernel_rfl) (by kernel_rfl) (by kernel_rfl) (fun _ _ _ h => h) (Or.inl ⟨by rfl, ?_⟩) (by assumption) ?_
        rotate_left
        · intro w hSw
          try dsimp only at hSw
          obtain ⟨hs0, hs1, hs2, hs3, hs4⟩ := hSw
          go_simp
          try with_reducible rfl
        try simp only [Act.put, List.setIfInBounds_toArray, List.set_cons_zero, List.set_cons_succ]
        refine wpAnyH_take (i := 5) (oi := { dst := some 39, op := Op.indexAddr 23 (Operand.tmp 37) (Operand.tmp 38), type := 0, pos := "outright.go:260", after := #[{ on := 3, ground := Ground.data }, { on := 4, ground := Ground.data }], guard := none }) (v := ?_) rfl (by kernel_rfl) (by kernel_rfl) (by kernel_rfl) (fun _ _ _ h => h) (Or.inl ⟨by rfl, ?_⟩) (by assumption) ?_
        rotate_left
        · intro w hSw
          try dsimp only at hSw
          obtain ⟨hs0, hs1, hs2, hs3, hs4⟩ := hSw
          go_simp
          try with_reducible rfl
        try simp only [Act.put, List.setIfInBounds_toArray, List.set_cons_zero, List.set_cons_succ]
        refine wpAnyH_take (i := 6) (oi := { dst := some 40, op := Op.load 62 (Operand.tmp 39), type := 62, pos := "outright.go:260", after := #[{ on := 5, ground := Ground.data }], guard := none }) (v := ?_) rfl (by kernel_rfl) (by kernel_rfl) (by kernel_rfl) (fun _ _ _ h => h) (Or.inl ⟨by rfl, ?_⟩) (by assumption) ?_
        rotate_left
        · intro w hSw
          try dsimp only at hSw
          obtain ⟨hs0, hs1, hs2, hs3, hs4⟩ := hSw
          go_simp
          try with_reducible rfl
        try simp only [Act.put, List.setIfInBounds_toArray, List.set_cons_zero, List.set_cons_succ]
        refine wpAnyH_ready (rs := [1, 7]) (by kernel_rfl) (by simp) ?_
        refine AllReadyH.cons (o := { dst := some 35, op := Op.load 23 (Operand.tmp 34), type := 23, pos := "outright.go:260", after := #[{ on := 0, ground := Ground.data }], guard := none }) rfl (fun K hK => ?_) (AllReadyH.cons (o := { dst := some 41, op := Op.buildSlice 23 1 #[(0, Operand.tmp 40)], type := 23, pos := "outright.go:260", after := #[{ on := 6, ground := Ground.data }], guard := none }) rfl (fun K hK => ?_) AllReadyH.nil)
        · go_simp
          refine hK.out _ _ hHeld (fun _ => ?_)
          clear hK K x1v
          try simp only [Act.put, List.setIfInBounds_toArray, List.set_cons_zero, List.set_cons_succ]
          refine wpAnyH_ready (rs := [7]) (by kernel_rfl) (by simp) ?_
          refine AllReadyH.cons (o := { dst := some 41, op := Op.buildSlice 23 1 #[(0, Operand.tmp 40)], type := 23, pos := "outright.go:260", after := #[{ on := 6, ground := Ground.data }], guard := none }) rfl (fun K hK => ?_) AllReadyH.nil
          go_simp
          refine hK.out _ _ (SL.out (Below.new1 _ _)) (fun hHeld => ?_)
          clear hK K
          try simp only [Act.put, List.setIfInBounds_toArray, List.set_cons_zero, List.set_cons_succ]
          refine abs_anyHS (fun Z => Below V.heap.size V Z ∧ Z.heap[V.heap.size]? = some (.cells #[.int .i64 (rget p.rules n).kind, .slice va (rget p.rules n).vars.length vc, .int .i64 (rget p.rules n).low, .int .i64 (rget p.rules n).high] 62 (0, 0))) ⟨Below.new1 _ _, heap_new0 _ _⟩ hHeld ?_
          clear hHeld
          rintro X1 ⟨hbx, kx⟩ hHeld
          have KX := Lib.hid kx; have HBX := Lib.hid hbx
          clear hbx kx
          refine wpAnyH_ready (rs := [8]) (by kernel_rfl) (by simp) ?_
          refine AllReadyH.cons (o := { dst := some 42, op := Op.call { callee := Callee.builtin Builtin.append, args := #[Operand.tmp 35, Operand.tmp 41], argTypes := #[23, 23] }, type := 23, pos := "outright.go:260", after := #[{ on := 1, ground := Ground.data }, { on := 7, ground := Ground.data }], guard := none }) rfl (fun K hK => ?_) AllReadyH.nil
          rw [if_pos (by rfl)]
          have hcs1 := own_ck hc0 (CK.below HBX.out)
          refine wp_append_own X1 _ _ 23 rfl (w.heap.size + 3) 62 i0 _ 4 48 Tryz.underlying23 hin hz0 hz1 hz2 rfl (by decide) (.slice qa rs.length qc) rs.length cs rfl hcs1 ⟨V.heap.size, 0, none⟩ 1 1 [.int .i64 (rget p.rules n).kind, .slice va (rget p.rules n).vars.length vc, .int .i64 (rget p.rules n).low, .int .i64 (rget p.rules n).high] rfl rfl ?_ ?_ (by unfold maxLen; omega) (by omega) (by have := HBX.out.size; omega) ?_
          · intro q u hq
            rw [Addr.add_lit, Nat.zero_add, cell_of_row _ _ _ _ _ _ KX.out, List.getElem?_toArray]; exact hq
          · intro u hu
            simp only [List.mem_cons, List.not_mem_nil, or_false] at hu
            rcases hu with rfl | rfl | rfl | rfl <;> rfl
          intro v' X2 hown2 hgrow2 _
          have hlowX : Below (w.heap.size + 3) V X2 := (HBX.out.mono (by omega)).trans ((Below.refl (w.heap.size + 3) X1).grown hgrow2 (by have := HBX.out.size; omega) (fun q hq => (hcs1.lt q hq).1))
          have hro2 : ROwn X2 B (w.heap.size + 3) v' (rs ++ [rget p.rules n]) :=
            ROwn.appended hcs1 ((Below.refl (w.heap.size + 3) X1).grown hgrow2 (by have := HBX.out.size; omega) (fun q hq => (hcs1.lt q hq).1) |>.mono (by omega)) (fun i hi => by
              obtain ⟨e1, e2, e3, yv, e4, e5⟩ := hcr i hi
              exact ⟨e1, e2, e3, yv, e4, e5.ck (CK.below HBX.out)⟩) (HVW.out.ck (CK.below HBX.out)) hown2
          refine hK.out _ _ (SL2.out hlowX) (fun hHeld => ?_)
          clear hK K
          try simp only [Act.put, List.setIfInBounds_toArray, List.set_cons_zero, List.set_cons_succ]
          have k22 := heap_later KV2.out hlowX (by omega)
          have k12 := heap_later KV1.out hlowX (by omega)
          have k02 := heap_later KV0.out hlowX (by omega)
          have hb2 := HBV2.out.trans (hlowX.mono (by omega))
          obtain ⟨g5, cp, rfl⟩ := Slice.own_succ hown2
          have x1 : X2.cell? ⟨w.heap.size + 1 + 1, 1, none⟩ = some (.slice qa rs.length qc) := by rw [cell_of_row _ _ _ _ _ _ k22]; rfl
          have x1f : X2.frozen? ⟨w.heap.size + 1 + 1, 1, none⟩ = false := by simp [World.frozen?, k22]
          have K22 := Lib.hid k22; have K12 := Lib.hid k12; have K02 := Lib.hid k02; have HB2 := Lib.hid hb2; have HRO2 := Lib.hid hro2; have HLX := Lib.hid hlowX
          clear hown2 hgrow2 hcs1 hro2 k22 k12 k02 hb2 hlowX
          refine wpAnyH_ready (rs := [9]) (by kernel_rfl) (by simp) ?_
          refine AllReadyH.cons (o := { dst := some 43, op := Op.fieldAddr 25 (Operand.tmp 7) 1, type := 0, pos := "outright.go:260", after := #[{ on := 0, ground := Ground.phase }, { on := 1, ground := Ground.phase }, { on := 2, ground := Ground.phase }, { on := 3, ground := Ground.phase }, { on := 4, ground := Ground.phase }, { on := 5, ground := Ground.phase }, { on := 6, ground := Ground.phase }, { on := 7, ground := Ground.phase }, { on := 8, ground := Ground.phase }], guard := none }) rfl (fun K hK => ?_) AllReadyH.nil
          go_simp
          refine hK.out _ _ (SL2.out HLX.out) (fun hHeld => ?_)
          clear hK K
          try simp only [Act.put, List.setIfInBounds_toArray, List.set_cons_zero, List.set_cons_succ]
          refine wpAnyH_ready (rs := [10]) (by kernel_rfl) (by simp) ?_
          refine AllReadyH.cons (o := { dst := none, op := Op.store 23 (Operand.tmp 43) (Operand.tmp 42), type := 0, pos := "outright.go:260", after := #[{ on := 9, ground := Ground.data }, { on := 8, ground := Ground.data }, { on := 8, ground := Ground.chain }, { on := 0, ground := Ground.phase }, { on := 1, ground := Ground.phase }, { on := 2, ground := Ground.phase }, { on := 3, ground := Ground.phase }, { on := 4, ground := Ground.phase }, { on := 5, ground := Ground.phase }, { on := 6, ground := Ground.phase }, { on := 7, ground := Ground.phase }, { on := 8, ground := Ground.phase }], guard := none }) rfl (fun K hK => ?_) AllReadyH.nil
          go_simp
          refine hK.out _ _ (SL3.out _ HLX.out _) (fun hHeld => ?_)
          clear hK K hHeld x1 x1f
          refine wpAnyH_done (by kernel_rfl) ?_ _
          have n0 : w.heap.size ≠ w.heap.size + 1 + 1 := by omega
          have n1 : w.heap.size + 1 ≠ w.heap.size + 1 + 1 := by omega
          have hfin : (X2.setCell ⟨w.heap.size + 1 + 1, 1, none⟩ (.slice (some ⟨g5, 0, none⟩) (rs.length + 1) cp)).heap[w.heap.size]? = some (.cells #[.slice ba p.bounds.length bc, .slice (some ⟨rb, ro, none⟩) p.rules.length rc] 25 (0, 0)) ∧
              (X2.setCell ⟨w.heap.size + 1 + 1, 1, none⟩ (.slice (some ⟨g5, 0, none⟩) (rs.length + 1) cp)).heap[w.heap.size + 1]? = some (.cells #[.slice none 0 0, .slice none 0 0] 25 (0, 0)) ∧
              (∃ qv, (X2.setCell ⟨w.heap.size + 1 + 1, 1, none⟩ (.slice (some ⟨g5, 0, none⟩) (rs.length + 1) cp)).heap[w.heap.size + 1 + 1]? = some (.cells #[.slice ba p.bounds.length bc, qv] 25 (0, 0)) ∧
              ROwn (X2.setCell ⟨w.heap.size + 1 + 1, 1, none⟩ (.slice (some ⟨g5, 0, none⟩) (rs.length + 1) cp)) B (w.heap.size + 3) qv (rs ++ [rget p.rules n])) ∧ Below w.heap.size w (X2.setCell ⟨w.heap.size + 1 + 1, 1, none⟩ (.slice (some ⟨g5, 0, none⟩) (rs.length + 1) cp)) :=
            ⟨(Below.heap_setCell _ _ _ _ n0).trans K02.out, (Below.heap_setCell _ _ _ _ n1).trans K12.out, ⟨_, set_row K22.out, HRO2.out.setCell (by omega) (by omega)⟩, HB2.out.setCell (by show w.heap.size ≤ w.heap.size + 1 + 1; omega) _⟩
          refine abs_post (fun Z => Z.heap[w.heap.size]? = some (.cells #[.slice ba p.bounds.length bc, .slice (some ⟨rb, ro, none⟩) p.rules.length rc] 25 (0, 0)) ∧ Z.heap[w.heap.size + 1]? = some (.cells #[.slice none 0 0, .slice none 0 0] 25 (0, 0)) ∧ (∃ qv, Z.heap[w.heap.size + 1 + 1]? = some (.cells #[.slice ba p.bounds.length bc, qv] 25 (0, 0)) ∧ ROwn Z B (w.heap.size + 3) qv (rs ++ [rget p.rules n])) ∧ Below w.heap.size w Z) hfin ?_
          clear hfin K22 K12 K02 HB2 HRO2 HLX
          rintro Z ⟨k0, k1, ⟨qv2, k2, hro⟩, hb⟩
          have K0 := Lib.hid k0; have K1 := Lib.hid k1; have K2 := Lib.hid k2; have HRO := Lib.hid hro; have HB := Lib.hid hb
          clear k0 k1 k2 hro hb
          go_wp2
          go_roundw
          case rel => exact ⟨k + 1, qv2, by omega, by go_num, K0.out, K1.out, K2.out, by rw [HTS.out]; exact HRO.out, HB.out⟩
          case measure => simp [intOf]; omega
        · go_simp
          refine hK.out _ _ (SL.out (Below.new1 _ _)) (fun hHeld => ?_)
          clear hK K
          try simp only [Act.put, List.setIfInBounds_toArray, List.set_cons_zero, List.set_cons_succ]
          refine abs_anyHS (fun Z => Below V.heap.size V Z ∧ Z.heap[V.heap.size]? = some (.cells #[.int .i64 (rget p.rules n).kind, .slice va (rget p.rules n).vars.length vc, .int .i64 (rget p.rules n).low, .int .i64 (rget p.rules n).high] 62 (0, 0))) ⟨Below.new1 _ _, heap_new0 _ _⟩ hHeld ?_
          clear hHeld
          rintro X1 ⟨hbx, kx⟩ hHeld
          have KX := Lib.hid kx; have HBX := Lib.hid hbx
          clear hbx kx
          have x1b := (HBX.out.cell (p := ⟨w.heap.size + 1 + 1, 1, none⟩) zV2).trans x1v
          refine wpAnyH_ready (rs := [1]) (by kernel_rfl) (by simp) ?_
          refine AllReadyH.cons (o := { dst := some 35, op := Op.load 23 (Operand.tmp 34), type := 23, pos := "outright.go:260", after := #[{ on := 0, ground := Ground.data }], guard := none }) rfl (fun K hK => ?_) AllReadyH.nil
          go_simp
          refine hK.out _ _ (SL.out HBX.out) (fun hHeld => ?_)
          clear hK K x1v x1b
          try simp only [Act.put, List.setIfInBounds_toArray, List.set_cons_zero, List.set_cons_succ]
          refine wpAnyH_ready (rs := [8]) (by kernel_rfl) (by simp) ?_
          refine AllReadyH.cons (o := { dst := some 42, op := Op.call { callee := Callee.builtin Builtin.append, args := #[Operand.tmp 35, Operand.tmp 41], argTypes := #[23, 23] }, type := 23, pos := "outright.go:260", after := #[{ on := 1, ground := Ground.data }, { on := 7, ground := Ground.data }], guard := none }) rfl (fun K hK => ?_) AllReadyH.nil
          rw [if_pos (by rfl)]
          have hcs1 := own_ck hc0 (CK.below HBX.out)
          refine wp_append_own X1 _ _ 23 rfl (w.heap.size + 3) 62 i0 _ 4 48 Tryz.underlying23 hin hz0 hz1 hz2 rfl (by decide) (.slice qa rs.length qc) rs.length cs rfl hcs1 ⟨V.heap.size, 0, none⟩ 1 1 [.int .i64 (rget p.rules n).kind, .slice va (rget p.rules n).vars.length vc, .int .i64 (rget p.rules n).low, .int .i64 (rget p.rules n).high] rfl rfl ?_ ?_ (by unfold maxLen; omega) (by omega) (by have := HBX.out.size; omega) ?_
          · intro q u hq
            rw [Addr.add_lit, Nat.zero_add, cell_of_row _ _ _ _ _ _ KX.out, List.getElem?_toArray]; exact hq
          · intro u hu
            simp only [List.mem_cons, List.not_mem_nil, or_false] at hu
            rcases hu with rfl | rfl | rfl | rfl <;> rfl
          intro v' X2 hown2 hgrow2 _
          have hlowX : Below (w.heap.size + 3) V X2 := (HBX.out.mono (by omega)).trans ((Below.refl (w.heap.size + 3) X1).grown hgrow2 (by have := HBX.out.size; omega) (fun q hq => (hcs1.lt q hq).1))
          have hro2 : ROwn X2 B (w.heap.size + 3) v' (rs ++ [rget p.rules n]) :=
            ROwn.appended hcs1 ((Below.refl (w.heap.size + 3) X1).grown hgrow2 (by have := HBX.out.size; omega) (fun q hq => (hcs1.lt q hq).1) |>.mono (by omega)) (fun i hi => by
              obtain ⟨e1, e2, e3, yv, e4, e5⟩ := hcr i hi
              exact ⟨e1, e2, e3, yv, e4, e5.ck (CK.below HBX.out)⟩) (HVW.out.ck (CK.below HBX.out)) hown2
          refine hK.out _ _ (SL2.out hlowX) (fun hHeld => ?_)
          clear hK K
          try simp only [Act.put, List.setIfInBounds_toArray, List.set_cons_zero, List.set_cons_succ]
          have k22 := heap_later KV2.out hlowX (by omega)
          have k12 := heap_later KV1.out hlowX (by omega)
          have k02 := heap_later KV0.out hlowX (by omega)
          have hb2 := HBV2.out.trans (hlowX.mono (by omega))
          obtain ⟨g5, cp, rfl⟩ := Slice.own_succ hown2
          have x1 : X2.cell? ⟨w.heap.size + 1 + 1, 1, none⟩ = some (.slice qa rs.length qc) := by rw [cell_of_row _ _ _ _ _ _ k22]; rfl
          have x1f : X2.frozen? ⟨w.heap.size + 1 + 1, 1, none⟩ = false := by simp [World.frozen?, k22]
          have K22 := Lib.hid k22; have K12 := Lib.hid k12; have K02 := Lib.hid k02; have HB2 := Lib.hid hb2; have HRO2 := Lib.hid hro2; have HLX := Lib.hid hlowX
          clear hown2 hgrow2 hcs1 hro2 k22 k12 k02 hb2 hlowX
          refine wpAnyH_ready (rs := [9]) (by kernel_rfl) (by simp) ?_
          refine AllReadyH.cons (o := { dst := some 43, op := Op.fieldAddr 25 (Operand.tmp 7) 1, type := 0, pos := "outright.go:260", after := #[{ on := 0, ground := Ground.phase }, { on := 1, ground := Ground.phase }, { on := 2, ground := Ground.phase }, { on := 3, ground := Ground.phase }, { on := 4, ground := Ground.phase }, { on := 5, ground := Ground.phase }, { on := 6, ground := Ground.phase }, { on := 7, ground := Ground.phase }, { on := 8, ground := Ground.phase }], guard := none }) rfl (fun K hK => ?_) AllReadyH.nil
          go_simp
          refine hK.out _ _ (SL2.out HLX.out) (fun hHeld => ?_)
          clear hK K
          try simp only [Act.put, List.setIfInBounds_toArray, List.set_cons_zero, List.set_cons_succ]
          refine wpAnyH_ready (rs := [10]) (by kernel_rfl) (by simp) ?_
          refine AllReadyH.cons (o := { dst := none, op := Op.store 23 (Operand.tmp 43) (Operand.tmp 42), type := 0, pos := "outright.go:260", after := #[{ on := 9, ground := Ground.data }, { on := 8, ground := Ground.data }, { on := 8, ground := Ground.chain }, { on := 0, ground := Ground.phase }, { on := 1, ground := Ground.phase }, { on := 2, ground := Ground.phase }, { on := 3, ground := Ground.phase }, { on := 4, ground := Ground.phase }, { on := 5, ground := Ground.phase }, { on := 6, ground := Ground.phase }, { on := 7, ground := Ground.phase }, { on := 8, ground := Ground.phase }], guard := none }) rfl (fun K hK => ?_) AllReadyH.nil
          go_simp
          refine hK.out _ _ (SL3.out _ HLX.out _) (fun hHeld => ?_)
          clear hK K hHeld x1 x1f
          refine wpAnyH_done (by kernel_rfl) ?_ _
          have n0 : w.heap.size ≠ w.heap.size + 1 + 1 := by omega
          have n1 : w.heap.size + 1 ≠ w.heap.size + 1 + 1 := by omega
          have hfin : (X2.setCell ⟨w.heap.size + 1 + 1, 1, none⟩ (.slice (some ⟨g5, 0, none⟩) (rs.length + 1) cp)).heap[w.heap.size]? = some (.cells #[.slice ba p.bounds.length bc, .slice (some ⟨rb, ro, none⟩) p.rules.length rc] 25 (0, 0)) ∧
              (X2.setCell ⟨w.heap.size + 1 + 1, 1, none⟩ (.slice (some ⟨g5, 0, none⟩) (rs.length + 1) cp)).heap[w.heap.size + 1]? = some (.cells #[.slice none 0 0, .slice none 0 0] 25 (0, 0)) ∧
              (∃ qv, (X2.setCell ⟨w.heap.size + 1 + 1, 1, none⟩ (.slice (some ⟨g5, 0, none⟩) (rs.length + 1) cp)).heap[w.heap.size + 1 + 1]? = some (.cells #[.slice ba p.bounds.length bc, qv] 25 (0, 0)) ∧
              ROwn (X2.setCell ⟨w.heap.size + 1 + 1, 1, none⟩ (.slice (some ⟨g5, 0, none⟩) (rs.length + 1) cp)) B (w.heap.size + 3) qv (rs ++ [rget p.rules n])) ∧ Below w.heap.size w (X2.setCell ⟨w.heap.size + 1 + 1, 1, none⟩ (.slice (some ⟨g5, 0, none⟩) (rs.length + 1) cp)) :=
            ⟨(Below.heap_setCell _ _ _ _ n0).trans K02.out, (Below.heap_setCell _ _ _ _ n1).trans K12.out, ⟨_, set_row K22.out, HRO2.out.setCell (by omega) (by omega)⟩, HB2.out.setCell (by show w.heap.size ≤ w.heap.size + 1 + 1; omega) _⟩
          refine abs_post (fun Z => Z.heap[w.heap.size]? = some (.cells #[.slice ba p.bounds.length bc, .slice (some ⟨rb, ro, none⟩) p.rules.length rc] 25 (0, 0)) ∧ Z.heap[w.heap.size + 1]? = some (.cells #[.slice none 0 0, .slice none 0 0] 25 (0, 0)) ∧ (∃ qv, Z.heap[w.heap.size + 1 + 1]? = some (.cells #[.slice ba p.bounds.length bc, qv] 25 (0, 0)) ∧ ROwn Z B (w.heap.size + 3) qv (rs ++ [rget p.rules n])) ∧ Below w.heap.size w Z) hfin ?_
          clear hfin K22 K12 K02 HB2 HRO2 HLX
          rintro Z ⟨k0, k1, ⟨qv2, k2, hro⟩, hb⟩
          have K0 := Lib.hid k0; have K1 := Lib.hid k1; have K2 := Lib.hid k2; have HRO := Lib.hid hro; have HB := Lib.hid hb
          clear k0 k1 k2 hro hb
          go_wp2
          go_roundw
          case rel => exact ⟨k + 1, qv2, by omega, by go_num, K0.out, K1.out, K2.out, by rw [HTS.out]; exact HRO.out, HB.out⟩
          case measure => simp [intOf]; omega
    · have hk2 : k = ns.length := by omega
      subst hk2
      rw [List.take_length] at hro
      have hbz := hb.size
      obtain ⟨qa, qn, qc, rfl⟩ : ∃ a n c, qv = .slice a n c := by
        obtain ⟨cs, hc, _⟩ := hro
        obtain ⟨a, c, h⟩ := own_form hc
        exact ⟨_, _, _, h⟩
      have c0 : wr.cell? ⟨w.heap.size + 1 + 1, 0, none⟩ = some (.slice ba p.bounds.length bc) := by rw [cell_of_row _ _ _ _ _ _ k2]; rfl
      have c1 : wr.cell? ⟨w.heap.size + 1 + 1, 1, none⟩ = some (.slice qa qn qc) := by rw [cell_of_row _ _ _ _ _ _ k2]; rfl
      have d0 : wr.cell? ⟨w.heap.size + 1, 0, none⟩ = some (.slice none 0 0) := by rw [cell_of_row _ _ _ _ _ _ k1]; rfl
      have d1 : wr.cell? ⟨w.heap.size + 1, 1, none⟩ = some (.slice none 0 0) := by rw [cell_of_row _ _ _ _ _ _ k1]; rfl
      have f0 : wr.frozen? ⟨w.heap.size + 1, 0, none⟩ = false := by simp [World.frozen?, k1]
      have f1 : wr.frozen? ⟨w.heap.size + 1, 1, none⟩ = false := by simp [World.frozen?, k1]
      have K1 := Lib.hid k1; have HRO := Lib.hid hro; have HB := Lib.hid hb
      have hel := eraseI_length ns i
      clear k0 k1 k2 hro hb
      go_wp2_with fail
      have q2 := set_row (o := 0) (v := .slice ba p.bounds.length bc) K1.out
      have q3 := set_row (o := 1) (v := .slice qa qn qc) q2
      have hinf : (Tryz.prog.info? 25).map (·.size) = some [Value.slice ba p.bounds.length bc, .slice qa qn qc].length := by kernel_rfl
      have hro3 := (HRO.out.setCell (b := w.heap.size + 1) (o := 0) (x := .slice ba p.bounds.length bc) (by omega) (by omega)).setCell (b := w.heap.size + 1) (o := 1) (x := .slice qa qn qc) (by omega) (by omega)
      have hrl := hro3.rls (by simp [World.setCell]; omega) (by simp; omega) rfl
      exact bodyPost_ret (results_cell1 (p := 6) (ty := 25) rfl rfl (run_loadVar_mid _ _ 0 _ [Value.slice ba p.bounds.length bc, .slice qa qn qc] _ (row_rangeL q3) Tryz.underlying25 rfl hinf)) rfl ⟨_, rfl, hrl, (HB.out.setCell (by show w.heap.size ≤ w.heap.size + 1; omega) _).setCell (by show w.heap.size ≤ w.heap.size + 1; omega) _⟩
end Go.Proofs.YtilbbnjfaoldoaaGreatDoor
