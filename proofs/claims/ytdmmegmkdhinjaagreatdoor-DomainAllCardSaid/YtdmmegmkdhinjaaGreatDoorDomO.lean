/- Package domain: Support. -/
import Derived.Test.YtdmmegmkdhinjaaGreatDoorBC
import Derived.OwnWalkIn
namespace Go.Proofs.YtdmmegmkdhinjaaGreatDoor
open Go Go.RowKit
attribute [local go_sem] cell_grow u64_sAnd u64_sOr u64_sDiff sDiff_all zeqI zneI sAnd_bit_zero sAnd_bit_zeroN sAnd_bit_nonzero Oper.semAt_some wide_fn wide_depth

theorem infoI : (Tryz.prog.info? 3).map (fun i => (i.zero, i.size, i.bytes)) = some (some (.int .i64 0), 1, 8) := by kernel_rfl
def supAOps : Array Oper := #[
  { dst := some 48, op := Op.load 25 (Operand.tmp 4), type := 25, pos := "domain.go:210", after := #[], guard := none },
  { dst := some 49, op := Op.call { callee := Callee.value (Operand.func 43), args := #[Operand.tmp 48], argTypes := #[25] }, type := 77, pos := "domain.go:210", after := #[{ on := 0, ground := Ground.data }], guard := none },
  { dst := some 50, op := Op.load 69 (Operand.tmp 10), type := 69, pos := "domain.go:210", after := #[], guard := none },
  { dst := some 51, op := Op.move (Operand.tmp 2), type := 3, pos := "domain.go:210", after := #[], guard := none },
  { dst := some 52, op := Op.move (Operand.tmp 3), type := 3, pos := "domain.go:210", after := #[], guard := none },
  { dst := some 53, op := Op.call { callee := Callee.value (Operand.func 68), args := #[Operand.tmp 49, Operand.tmp 50, Operand.tmp 51, Operand.tmp 52], argTypes := #[77, 69, 3, 3] }, type := 103, pos := "domain.go:210", after := #[{ on := 1, ground := Ground.data }, { on := 2, ground := Ground.data }, { on := 3, ground := Ground.data }, { on := 4, ground := Ground.data }, { on := 1, ground := Ground.chain }], guard := none },
  { dst := some 47, op := Op.move (Operand.tmp 53), type := 103, pos := "domain.go:210", after := #[{ on := 5, ground := Ground.data }], guard := none },
  { dst := some 54, op := Op.extract (Operand.tmp 47) 0, type := 22, pos := "domain.go:210", after := #[{ on := 6, ground := Ground.data }], guard := none },
  { dst := some 55, op := Op.extract (Operand.tmp 47) 1, type := 4, pos := "domain.go:210", after := #[{ on := 6, ground := Ground.data }, { on := 10, ground := Ground.gcOnly Go.Departure.lateStores }], guard := none },
  { dst := some 11, op := Op.alloc 22, type := 0, pos := "domain.go:210", after := #[], guard := none },
  { dst := none, op := Op.store 22 (Operand.tmp 11) (Operand.tmp 54), type := 0, pos := "domain.go:210", after := #[{ on := 9, ground := Ground.data }, { on := 7, ground := Ground.data }, { on := 5, ground := Ground.chain }, { on := 0, ground := Ground.phase }, { on := 1, ground := Ground.phase }, { on := 2, ground := Ground.phase }, { on := 3, ground := Ground.phase }, { on := 4, ground := Ground.phase }, { on := 5, ground := Ground.phase }, { on := 6, ground := Ground.phase }, { on := 7, ground := Ground.phase }, { on := 8, ground := Ground.textOnly Go.Departure.lateStores }, { on := 9, ground := Ground.phase }], guard := none },
  { dst := some 12, op := Op.assign (Operand.tmp 55), type := 4, pos := "domain.go:210", after := #[{ on := 8, ground := Ground.data }, { on := 10, ground := Ground.chain }, { on := 0, ground := Ground.phase }, { on := 1, ground := Ground.phase }, { on := 2, ground := Ground.phase }, { on := 3, ground := Ground.phase }, { on := 4, ground := Ground.phase }, { on := 5, ground := Ground.phase }, { on := 6, ground := Ground.phase }, { on := 7, ground := Ground.phase }, { on := 8, ground := Ground.phase }, { on := 9, ground := Ground.phase }, { on := 10, ground := Ground.phase }], guard := none }]
def supBOps : Array Oper := #[
  { dst := some 74, op := Op.load 22 (Operand.tmp 11), type := 22, pos := "domain.go:218", after := #[], guard := none },
  { dst := some 75, op := Op.load 3 (Operand.tmp 14), type := 3, pos := "domain.go:218", after := #[], guard := none },
  { dst := some 76, op := Op.move (Operand.tmp 16), type := 3, pos := "domain.go:218", after := #[], guard := none },
  { dst := some 77, op := Op.call { callee := Callee.value (Operand.func 71), args := #[Operand.tmp 76], argTypes := #[3] }, type := 56, pos := "domain.go:218", after := #[{ on := 2, ground := Ground.data }], guard := none },
  { dst := some 78, op := Op.indexAddr 22 (Operand.tmp 74) (Operand.tmp 75), type := 0, pos := "domain.go:218", after := #[{ on := 0, ground := Ground.data }, { on := 1, ground := Ground.data }, { on := 0, ground := Ground.phase }, { on := 1, ground := Ground.phase }, { on := 2, ground := Ground.phase }, { on := 3, ground := Ground.phase }], guard := none },
  { dst := none, op := Op.store 56 (Operand.tmp 78) (Operand.tmp 77), type := 0, pos := "domain.go:218", after := #[{ on := 4, ground := Ground.data }, { on := 3, ground := Ground.data }, { on := 3, ground := Ground.chain }, { on := 0, ground := Ground.phase }, { on := 1, ground := Ground.phase }, { on := 2, ground := Ground.phase }, { on := 3, ground := Ground.phase }], guard := none }]
set_option maxRecDepth 100000 in
set_option maxHeartbeats 4000000 in
theorem support_any (p : Dp) (rule at_ v : Int) (dv rv : Value) (w : World) {B : Nat} (hdv : Us w B dv p.doms) (hrv : DRls w B rv p.rules) (hB0 : 0 < B) (hB : B ≤ w.heap.size) (hT : Tab w) :
    Calls Tryz.prog 39 #[.agg #[dv, rv], .int .i64 rule, .int .i64 at_, .int .i64 v] w (SupP p rule at_ v w) := by
  have hb0 := Below.new1 w (.cells #[dv, rv] 25)
  have hk0 := heap_new0 w (.cells #[dv, rv] 25)
  have HCH := Lib.hid (check_any p dv rv _ (hdv.below hb0 hB) (hrv.below hb0 hB) (by simp; omega))
  obtain ⟨da, dc, rfl⟩ := hdv.slice
  obtain ⟨ra, rc, rfl⟩ := hrv.slice
  have hrl := hrv.len
  have HB0 := Lib.hid hb0; have HK0 := Lib.hid hk0; have HDV := Lib.hid hdv; have HRV := Lib.hid hrv; have HT := Lib.hid hT
  clear hb0 hk0 hdv hrv hT
  refine callsIn_wide.1 (callsIn_of_wp_marks (n := 0) Tryz.func39 rfl trivial (wpIn_wide.2 ?_) rfl)
  simp only [Tryz.ntmps39, List.size_toArray, List.length_cons, List.length_nil, Nat.reduceAdd, Nat.reduceSub, Array.replicate_succ, Array.replicate_zero, List.push_toArray, List.append_toArray, List.nil_append, List.cons_append]
  go_upto_region 1 with fail
  go_step3
  go_wp2_with fail
  refine HCH.out.mono ?_
  rintro e w1 ⟨rfl, hb1⟩
  have HB1 := Lib.hid (HB0.out.trans (hb1.mono HB0.out.size)); have HK1 := Lib.hid (heap_later HK0.out hb1 (by simp))
  have z1 : w.heap.size < w1.heap.size := (Array.getElem?_eq_some_iff.1 HK1.out).1
  clear hb1 HCH HB0 HK0
  cases hp : probD p
  case false =>
    have HE : Hid (supE p rule at_ v = 2) := Lib.hid (by unfold supE; rw [hp]; rfl)
    unfold errOf
    go_wp2
    rw [Exit.noGoto_ret]
    refine bodyM_ret0 (results_tmp2 (t := 8) (u := 9) rfl _ _ _) rfl ?_
    exact SupP.bad HE.out (by decide) HB1.out
  case true =>
    unfold errOf
    have q1 : w1.cell? ⟨w.heap.size, 1, none⟩ = some (.slice ra p.rules.length rc) := by rw [cell_of_row _ _ _ _ _ _ HK1.out]; rfl
    cases hin : inB rule 0 (p.rules.length - 1)
    case false =>
      have HE : Hid (supE p rule at_ v = 2) := Lib.hid (by unfold supE; rw [hp, hin]; rfl)
      have HP := Lib.hid hp
      clear hp
      go_wp2_with (go_at_call 50; refine (within_any _ _ _ _).mono ?_; rintro e w' ⟨rfl, hww⟩; rw [hww]; clear hww w')
      rw [Exit.noGoto_ret]
      refine bodyM_ret0 (results_tmp2 (t := 8) (u := 9) rfl _ _ _) rfl ?_
      exact SupP.bad HE.out (by decide) HB1.out
    case true =>
      obtain ⟨k, rfl⟩ : ∃ k : Nat, rule = (k : Int) := ⟨rule.toNat, by unfold inB at hin; simp only [Bool.and_eq_true, decide_eq_true_eq] at hin; omega⟩
      have hk : k < p.rules.length := by unfold inB at hin; simp only [Bool.and_eq_true, decide_eq_true_eq] at hin; omega
      obtain ⟨b, off, vv, nv, hae, hbs, hra, c0, c1, c2, c3⟩ := HRV.out.cells hk
      subst hae
      have c0 := (HB1.out.cell (p := ⟨b, off + k * 4, none⟩) (by show b < w.heap.size; omega)).trans c0
      have c1 := (HB1.out.cell (p := ⟨b, off + k * 4 + 1, none⟩) (by show b < w.heap.size; omega)).trans c1
      have c2 := (HB1.out.cell (p := ⟨b, off + k * 4 + 2, none⟩) (by show b < w.heap.size; omega)).trans c2
      have c3 := (HB1.out.cell (p := ⟨b, off + k * 4 + 3, none⟩) (by show b < w.heap.size; omega)).trans c3
      obtain ⟨va, vc, rfl⟩ := hra.vars.slice
      obtain ⟨na, nc, rfl⟩ := hra.nums.slice
      have HP := Lib.hid hp; have HRA := Lib.hid hra
      obtain ⟨r, hr⟩ : ∃ r, r = drget p.rules k := ⟨_, rfl⟩
      rw [← hr] at HRA c0 c1 c2 c3
      have HR := Lib.hid hr
      have HPP := Lib.hid (probD_parts hp)
      have hr0 : ruleD r p.doms.length = true := by rw [hr]; exact (probD_parts hp).2.2.2.2 k hk
      have hv4 := (ruleD_parts hr0).2.1
      have HRD := Lib.hid hr0
      have HSE : Hid (supE p (k : Int) at_ v = if inB at_ 0 ((r.vars.length : Int) - 1) then (if suppD (padD p.doms) r at_.toNat v then 0 else 5) else 2) := Lib.hid (by unfold supE; rw [hp, hin, Int.toNat_natCast, ← hr]; rfl)
      clear hp hra hr hr0
      cases hat : inB at_ 0 ((r.vars.length : Int) - 1)
      case false =>
        have HE : Hid (supE p (k : Int) at_ v = 2) := Lib.hid (by rw [HSE.out, hat]; rfl)
        go_wp2_with (go_at_call 50; refine (within_any _ _ _ _).mono ?_; rintro e w' ⟨rfl, hww⟩; rw [hww]; clear hww w')
        rw [Exit.noGoto_ret]
        refine bodyM_ret0 (results_tmp2 (t := 8) (u := 9) rfl _ _ _) rfl ?_
        exact SupP.bad HE.out (by decide) HB1.out
      case true =>
        obtain ⟨a, rfl⟩ : ∃ a : Nat, at_ = (a : Int) := ⟨at_.toNat, by unfold inB at hat; simp only [Bool.and_eq_true, decide_eq_true_eq] at hat; omega⟩
        have ha : a < r.vars.length := by unfold inB at hat; simp only [Bool.and_eq_true, decide_eq_true_eq] at hat; omega
        have HSE2 : Hid (supE p (k : Int) (a : Int) v = if suppD (padD p.doms) r a v then 0 else 5) := Lib.hid (by rw [HSE.out, hat]; rfl)
        clear HSE
        go_wp2_with (go_at_call 50; refine (within_any _ _ _ _).mono ?_; rintro e w' ⟨rfl, hww⟩; rw [hww]; clear hww w')
        refine abs_wp (fun W => W.heap[w.heap.size]? = some (.cells #[.slice da p.doms.length dc, .slice (some ⟨b, off, none⟩) p.rules.length rc] 25 (0, 0)) ∧ W.heap[w1.heap.size]? = some (.cells #[.int .i64 r.kind, .slice va r.vars.length vc, .slice na r.nums.length nc, .int .i64 r.n] 69 (0, 0)) ∧ Below w1.heap.size w1 W) ⟨heap_old HK1.out, heap_new0 _ _, Below.new1 _ _⟩ ?_
        rintro W ⟨k0, k1, hbW⟩
        have zW : w1.heap.size < W.heap.size := (Array.getElem?_eq_some_iff.1 k1).1
        have z0 : w.heap.size < W.heap.size := by omega
        have HSB : Hid (∀ V, Below W.heap.size W V → V.cell? ⟨w.heap.size, 0, none⟩ = some (.slice da p.doms.length dc) ∧ V.cell? ⟨w.heap.size, 1, none⟩ = some (.slice (some ⟨b, off, none⟩) p.rules.length rc) ∧ V.cell? ⟨w1.heap.size, 0, none⟩ = some (.int .i64 r.kind) ∧ V.cell? ⟨w1.heap.size, 1, none⟩ = some (.slice va r.vars.length vc) ∧ V.cell? ⟨w1.heap.size, 2, none⟩ = some (.slice na r.nums.length nc) ∧ V.cell? ⟨w1.heap.size, 3, none⟩ = some (.int .i64 r.n)) := Lib.hid fun V hV => by
          have e0 := heap_later k0 hV z0
          have e1 := heap_later k1 hV zW
          refine ⟨?_, ?_, ?_, ?_, ?_, ?_⟩
          · rw [cell_of_row _ _ _ _ _ _ e0]; rfl
          · rw [cell_of_row _ _ _ _ _ _ e0]; rfl
          · rw [cell_of_row _ _ _ _ _ _ e1]; rfl
          · rw [cell_of_row _ _ _ _ _ _ e1]; rfl
          · rw [cell_of_row _ _ _ _ _ _ e1]; rfl
          · rw [cell_of_row _ _ _ _ _ _ e1]; rfl
        have HBW := Lib.hid (HB1.out.trans (hbW.mono HB1.out.size)); have HBW1 := Lib.hid hbW; have K0 := Lib.hid k0; have K1 := Lib.hid k1
        clear k0 k1 hbW q1 c0 c1 c2 c3
        have HL1 : Hid (∀ V, Below W.heap.size W V → Calls Tryz.prog 43 #[.agg #[.slice da p.doms.length dc, .slice (some ⟨b, off, none⟩) p.rules.length rc]] V fun e w' => e = .returned (fieldV (padD p.doms)) ∧ Below V.heap.size V w') := Lib.hid fun V hV => fieldOf_any p _ _ V (HDV.out.below (HBW.out.trans (hV.mono HBW.out.size)) hB) (by have := hV.size; omega) HPP.out.1 HPP.out.2.1 _ p.rules.length rc rfl
        have HL2 : Hid (∀ V, Below W.heap.size W V → Calls Tryz.prog 68 #[fieldV (padD p.doms), .agg #[.int .i64 r.kind, .slice va r.vars.length vc, .slice na r.nums.length nc, .int .i64 r.n], .int .i64 (a : Nat), .int .i64 v] V (OfP V (ofAt (padD p.doms) r a v) (hasD (nget (ofD (padD p.doms) r.vars) a) v))) := Lib.hid fun V hV => of_any _ (padD_length HPP.out.2.1) (padD_ok HP.out).u64 r (ruleD_vars HRD.out (by have := HPP.out.2.1; omega)) a ha v hv4 _ _ V (HRA.out.below (HBW.out.trans (hV.mono HBW.out.size)) hB) (by have := hV.size; omega)
        apply wp_mid (R := fun (qb : Nat) (la : Option Addr) (lc : Nat) W' => W'.heap[qb]? = some (.cells #[.slice la r.vars.length lc] 22 (0, 0)) ∧ W'.ownsRow W.heap.size 56 1 (.slice la r.vars.length lc) r.vars.length (natsV (ofAt (padD p.doms) r a v)) ∧ Below W.heap.size W W' ∧ W.heap.size ≤ qb)
        case h =>
          refine wp_region_held_drew (S := fun V => V.cell? ⟨w.heap.size, 0, none⟩ = some (.slice da p.doms.length dc) ∧ V.cell? ⟨w.heap.size, 1, none⟩ = some (.slice (some ⟨b, off, none⟩) p.rules.length rc) ∧ V.cell? ⟨w1.heap.size, 0, none⟩ = some (.int .i64 r.kind) ∧ V.cell? ⟨w1.heap.size, 1, none⟩ = some (.slice va r.vars.length vc) ∧ V.cell? ⟨w1.heap.size, 2, none⟩ = some (.slice na r.nums.length nc) ∧ V.cell? ⟨w1.heap.size, 3, none⟩ = some (.int .i64 r.n)) (by kernel_rfl) (HSB.out _ (Below.drewn (Below.refl _ _))) (fun hHeld => ?_)
          change wpAnyH _ _ supAOps _ _ _ _ _ _
          refine abs_anyHS (fun V => Below W.heap.size W V) (Below.drewn (Below.refl _ _)) hHeld ?_
          clear hHeld
          rintro V hbV hHeld
          have HBV := Lib.hid hbV
          clear hbV
          refine wpAnyH_take (i := 0) (oi := { dst := some 48, op := Op.load 25 (Operand.tmp 4), type := 25, pos := "domain.go:210", after := #[], guard := none }) (v := ?_) rfl (by kernel_rfl) (by kernel_rfl) (by kernel_rfl) (fun _ _ _ h => h) (Or.inl ⟨by kernel_rfl, ?_⟩) hHeld ?_
          rotate_left
          · intro w hSw
            obtain ⟨hs0, hs1, hs2, hs3, hs4, hs5⟩ := hSw
            go_simp
            try with_reducible rfl
          try simp only [Act.put, List.setIfInBounds_toArray, List.set_cons_zero, List.set_cons_succ]
          refine wpAnyH_take (i := 2) (oi := { dst := some 50, op := Op.load 69 (Operand.tmp 10), type := 69, pos := "domain.go:210", after := #[], guard := none }) (v := ?_) rfl (by kernel_rfl) (by kernel_rfl) (by kernel_rfl) (fun _ _ _ h => h) (Or.inl ⟨by kernel_rfl, ?_⟩) hHeld ?_
          rotate_left
          · intro w hSw
            obtain ⟨hs0, hs1, hs2, hs3, hs4, hs5⟩ := hSw
            go_simp
            try with_reducible rfl
          try simp only [Act.put, List.setIfInBounds_toArray, List.set_cons_zero, List.set_cons_succ]
          refine wpAnyH_take (i := 3) (oi := { dst := some 51, op := Op.move (Operand.tmp 2), type := 3, pos := "domain.go:210", after := #[], guard := none }) (v := ?_) rfl (by kernel_rfl) (by kernel_rfl) (by kernel_rfl) (fun _ _ _ h => h) (Or.inl ⟨by kernel_rfl, ?_⟩) hHeld ?_
          rotate_left
          · intro w hSw
            obtain ⟨hs0, hs1, hs2, hs3, hs4, hs5⟩ := hSw
            go_simp
            try with_reducible rfl
          try simp only [Act.put, List.setIfInBounds_toArray, List.set_cons_zero, List.set_cons_succ]
          refine wpAnyH_take (i := 4) (oi := { dst := some 52, op := Op.move (Operand.tmp 3), type := 3, pos := "domain.go:210", after := #[], guard := none }) (v := ?_) rfl (by kernel_rfl) (by kernel_rfl) (by kernel_rfl) (fun _ _ _ h => h) (Or.inl ⟨by kernel_rfl, ?_⟩) hHeld ?_
          rotate_left
          · intro w hSw
            obtain ⟨hs0, hs1, hs2, hs3, hs4, hs5⟩ := hSw
            go_simp
            try with_reducible rfl
          try simp only [Act.put, List.setIfInBounds_toArray, List.set_cons_zero, List.set_cons_succ]
          refine wpAnyH_ready (rs := [1, 9]) (by kernel_rfl) (by simp) ?_
          refine AllReadyH.cons (o := { dst := some 49, op := Op.call { callee := Callee.value (Operand.func 43), args := #[Operand.tmp 48], argTypes := #[25] }, type := 77, pos := "domain.go:210", after := #[{ on := 0, ground := Ground.data }], guard := none }) rfl (fun K hK => ?_) (AllReadyH.cons (o := { dst := some 11, op := Op.alloc 22, type := 0, pos := "domain.go:210", after := #[], guard := none }) rfl (fun K hK => ?_) AllReadyH.nil)
          · go_simp
            refine (HL1.out V HBV.out).mono ?_
            rintro e1 V1 ⟨rfl, hb1⟩
            have hbv1 := HBV.out.trans (hb1.mono HBV.out.size)
            have HLAST := Lib.hid hb1
            refine hK.out _ _ (HSB.out _ hbv1) (fun hHeld => ?_)
            clear hK K
            try simp only [Act.put, List.setIfInBounds_toArray, List.set_cons_zero, List.set_cons_succ]
            clear HBV
            have HBV := Lib.hid hbv1
            clear hbv1 hb1
            refine wpAnyH_ready (rs := [5, 9]) (by kernel_rfl) (by simp) ?_
            refine AllReadyH.cons (o := { dst := some 53, op := Op.call { callee := Callee.value (Operand.func 68), args := #[Operand.tmp 49, Operand.tmp 50, Operand.tmp 51, Operand.tmp 52], argTypes := #[77, 69, 3, 3] }, type := 103, pos := "domain.go:210", after := #[{ on := 1, ground := Ground.data }, { on := 2, ground := Ground.data }, { on := 3, ground := Ground.data }, { on := 4, ground := Ground.data }, { on := 1, ground := Ground.chain }], guard := none }) rfl (fun K hK => ?_) (AllReadyH.cons (o := { dst := some 11, op := Op.alloc 22, type := 0, pos := "domain.go:210", after := #[], guard := none }) rfl (fun K hK => ?_) AllReadyH.nil)
            · go_simp
              refine (HL2.out V1 HBV.out).mono ?_
              rintro e1 V2 ⟨lv, rfl, hown, hb1⟩
              rw [ofAt_length] at hown
              obtain ⟨la, lc, rfl⟩ := own_form hown
              have hbv1 := HBV.out.trans (hb1.mono HBV.out.size)
              have HOW := Lib.hid (own_mono hown HBV.out.size)
              have HLAST := Lib.hid hb1
              refine hK.out _ _ (HSB.out _ hbv1) (fun hHeld => ?_)
              clear hK K
              try simp only [Act.put, List.setIfInBounds_toArray, List.set_cons_zero, List.set_cons_succ]
              clear HBV hown
              have HBV := Lib.hid hbv1
              clear hbv1 hb1
              refine wpAnyH_take (i := 6) (oi := { dst := some 47, op := Op.move (Operand.tmp 53), type := 103, pos := "domain.go:210", after := #[{ on := 5, ground := Ground.data }], guard := none }) (v := ?_) rfl (by kernel_rfl) (by kernel_rfl) (by kernel_rfl) (fun _ _ _ h => h) (Or.inl ⟨by kernel_rfl, ?_⟩) hHeld ?_
              rotate_left
              · intro w hSw
                obtain ⟨hs0, hs1, hs2, hs3, hs4, hs5⟩ := hSw
                go_simp
                try with_reducible rfl
              try simp only [Act.put, List.setIfInBounds_toArray, List.set_cons_zero, List.set_cons_succ]
              refine wpAnyH_take (i := 7) (oi := { dst := some 54, op := Op.extract (Operand.tmp 47) 0, type := 22, pos := "domain.go:210", after := #[{ on := 6, ground := Ground.data }], guard := none }) (v := ?_) rfl (by kernel_rfl) (by kernel_rfl) (by kernel_rfl) (fun _ _ _ h => h) (Or.inl ⟨by kernel_rfl, ?_⟩) hHeld ?_
              rotate_left
              · intro w hSw
                obtain ⟨hs0, hs1, hs2, hs3, hs4, hs5⟩ := hSw
                go_simp
                try with_reducible rfl
              try simp only [Act.put, List.setIfInBounds_toArray, List.set_cons_zero, List.set_cons_succ]
              refine wpAnyH_take (i := 8) (oi := { dst := some 55, op := Op.extract (Operand.tmp 47) 1, type := 4, pos := "domain.go:210", after := #[{ on := 6, ground := Ground.data }, { on := 10, ground := Ground.gcOnly Go.Departure.lateStores }], guard := none }) (v := ?_) rfl (by kernel_rfl) (by kernel_rfl) (by kernel_rfl) (fun _ _ _ h => h) (Or.inl ⟨by kernel_rfl, ?_⟩) hHeld ?_
              rotate_left
              · intro w hSw
                obtain ⟨hs0, hs1, hs2, hs3, hs4, hs5⟩ := hSw
                go_simp
                try with_reducible rfl
              try simp only [Act.put, List.setIfInBounds_toArray, List.set_cons_zero, List.set_cons_succ]
              refine wpAnyH_ready (rs := [9]) (by kernel_rfl) (by simp) ?_
              refine AllReadyH.cons (o := { dst := some 11, op := Op.alloc 22, type := 0, pos := "domain.go:210", after := #[], guard := none }) rfl (fun K hK => ?_) AllReadyH.nil
              go_simp
              obtain ⟨qb, hqb⟩ : ∃ q, q = V2.heap.size := ⟨_, rfl⟩
              have hnx := Below.new1 V2 (.cells #[.slice none 0 0] 22)
              have hkx := heap_new0 V2 (.cells #[.slice none 0 0] 22)
              have HQB := Lib.hid (show W.heap.size ≤ qb by have := HBV.out.size; omega)
              have hbx := HBV.out.trans (hnx.mono HBV.out.size)
              try rw [← hqb]
              try rw [← hqb] at hkx
              try rw [← hqb] at hnx
              have HKQ := Lib.hid hkx; have HBX := Lib.hid hbx; have HLAST := Lib.hid (Below.new1 V2 (.cells #[.slice none 0 0] 22))
              clear hnx hkx hqb
              refine hK.out _ _ (HSB.out _ hbx) (fun hHeld => ?_)
              clear hK K
              try simp only [Act.put, List.setIfInBounds_toArray, List.set_cons_zero, List.set_cons_succ]
              clear hbx
              obtain ⟨V3, hV1⟩ : ∃ X, X = V2.alloc (.cells #[.slice none 0 0] 22) := ⟨_, rfl⟩
              rw [← hV1] at HKQ HBX HLAST hHeld ⊢
              clear HBV hV1
              have HBV := Lib.hid HBX.out
              clear HBX
              have hown := own_ck HOW.out (CK.below HLAST.out)
              clear HOW HLAST
              have HOW := Lib.hid hown
              clear hown
              refine wpAnyH_ready (rs := [10]) (by kernel_rfl) (by simp) ?_
              refine AllReadyH.cons (o := { dst := none, op := Op.store 22 (Operand.tmp 11) (Operand.tmp 54), type := 0, pos := "domain.go:210", after := #[{ on := 9, ground := Ground.data }, { on := 7, ground := Ground.data }, { on := 5, ground := Ground.chain }, { on := 0, ground := Ground.phase }, { on := 1, ground := Ground.phase }, { on := 2, ground := Ground.phase }, { on := 3, ground := Ground.phase }, { on := 4, ground := Ground.phase }, { on := 5, ground := Ground.phase }, { on := 6, ground := Ground.phase }, { on := 7, ground := Ground.phase }, { on := 8, ground := Ground.textOnly Go.Departure.lateStores }, { on := 9, ground := Ground.phase }], guard := none }) rfl (fun K hK => ?_) AllReadyH.nil
              have qq : V3.cell? ⟨qb, 0, none⟩ = some (.slice none 0 0) := by rw [cell_of_row _ _ _ _ _ _ HKQ.out]; rfl
              have fq : V3.frozen? ⟨qb, 0, none⟩ = false := by simp [World.frozen?, HKQ.out]
              go_simp
              refine hK.out _ _ (HSB.out _ (HBV.out.setCell (p := ⟨qb, 0, none⟩) HQB.out _)) (fun hHeld => ?_)
              clear hK K
              try simp only [Act.put, List.setIfInBounds_toArray, List.set_cons_zero, List.set_cons_succ]
              refine wpAnyH_take (i := 11) (oi := { dst := some 12, op := Op.assign (Operand.tmp 55), type := 4, pos := "domain.go:210", after := #[{ on := 8, ground := Ground.data }, { on := 10, ground := Ground.chain }, { on := 0, ground := Ground.phase }, { on := 1, ground := Ground.phase }, { on := 2, ground := Ground.phase }, { on := 3, ground := Ground.phase }, { on := 4, ground := Ground.phase }, { on := 5, ground := Ground.phase }, { on := 6, ground := Ground.phase }, { on := 7, ground := Ground.phase }, { on := 8, ground := Ground.phase }, { on := 9, ground := Ground.phase }, { on := 10, ground := Ground.phase }], guard := none }) (v := ?_) rfl (by kernel_rfl) (by kernel_rfl) (by kernel_rfl) (fun _ _ _ h => h) (Or.inl ⟨by kernel_rfl, ?_⟩) hHeld ?_
              rotate_left
              · intro w hSw
                obtain ⟨hs0, hs1, hs2, hs3, hs4, hs5⟩ := hSw
                go_simp
                try with_reducible rfl
              try simp only [Act.put, List.setIfInBounds_toArray, List.set_cons_zero, List.set_cons_succ]
              refine wpAnyH_done (by kernel_rfl) ?_ _
              dsimp only [onlyN]
              exact ⟨qb, la, lc, rfl, set_row HKQ.out, own_setF HOW.out HKQ.out (by decide), HBV.out.setCell (p := ⟨qb, 0, none⟩) HQB.out _, HQB.out⟩
            · go_simp
              obtain ⟨qb, hqb⟩ : ∃ q, q = V1.heap.size := ⟨_, rfl⟩
              have hnx := Below.new1 V1 (.cells #[.slice none 0 0] 22)
              have hkx := heap_new0 V1 (.cells #[.slice none 0 0] 22)
              have HQB := Lib.hid (show W.heap.size ≤ qb by have := HBV.out.size; omega)
              have hbx := HBV.out.trans (hnx.mono HBV.out.size)
              try rw [← hqb]
              try rw [← hqb] at hkx
              try rw [← hqb] at hnx
              have HKQ := Lib.hid hkx; have HBX := Lib.hid hbx; have HLAST := Lib.hid (Below.new1 V1 (.cells #[.slice none 0 0] 22))
              clear hnx hkx hqb
              refine hK.out _ _ (HSB.out _ hbx) (fun hHeld => ?_)
              clear hK K
              try simp only [Act.put, List.setIfInBounds_toArray, List.set_cons_zero, List.set_cons_succ]
              clear hbx
              obtain ⟨V2, hV1⟩ : ∃ X, X = V1.alloc (.cells #[.slice none 0 0] 22) := ⟨_, rfl⟩
              rw [← hV1] at HKQ HBX HLAST hHeld ⊢
              clear HBV hV1
              have HBV := Lib.hid HBX.out
              clear HBX
              refine wpAnyH_ready (rs := [5]) (by kernel_rfl) (by simp) ?_
              refine AllReadyH.cons (o := { dst := some 53, op := Op.call { callee := Callee.value (Operand.func 68), args := #[Operand.tmp 49, Operand.tmp 50, Operand.tmp 51, Operand.tmp 52], argTypes := #[77, 69, 3, 3] }, type := 103, pos := "domain.go:210", after := #[{ on := 1, ground := Ground.data }, { on := 2, ground := Ground.data }, { on := 3, ground := Ground.data }, { on := 4, ground := Ground.data }, { on := 1, ground := Ground.chain }], guard := none }) rfl (fun K hK => ?_) AllReadyH.nil
              go_simp
              refine (HL2.out V2 HBV.out).mono ?_
              rintro e1 V3 ⟨lv, rfl, hown, hb1⟩
              rw [ofAt_length] at hown
              obtain ⟨la, lc, rfl⟩ := own_form hown
              have hbv1 := HBV.out.trans (hb1.mono HBV.out.size)
              have HOW := Lib.hid (own_mono hown HBV.out.size)
              have HLAST := Lib.hid hb1
              refine hK.out _ _ (HSB.out _ hbv1) (fun hHeld => ?_)
              clear hK K
              try simp only [Act.put, List.setIfInBounds_toArray, List.set_cons_zero, List.set_cons_succ]
              clear HBV hown
              have HBV := Lib.hid hbv1
              clear hbv1 hb1
              have hkq := heap_later HKQ.out HLAST.out (Array.getElem?_eq_some_iff.1 HKQ.out).1
              clear HKQ HLAST
              have HKQ := Lib.hid hkq
              clear hkq
              refine wpAnyH_take (i := 6) (oi := { dst := some 47, op := Op.move (Operand.tmp 53), type := 103, pos := "domain.go:210", after := #[{ on := 5, ground := Ground.data }], guard := none }) (v := ?_) rfl (by kernel_rfl) (by kernel_rfl) (by kernel_rfl) (fun _ _ _ h => h) (Or.inl ⟨by kernel_rfl, ?_⟩) hHeld ?_
              rotate_left
              · intro w hSw
                obtain ⟨hs0, hs1, hs2, hs3, hs4, hs5⟩ := hSw
                go_simp
                try with_reducible rfl
              try simp only [Act.put, List.setIfInBounds_toArray, List.set_cons_zero, List.set_cons_succ]
              refine wpAnyH_take (i := 7) (oi := { dst := some 54, op := Op.extract (Operand.tmp 47) 0, type := 22, pos := "domain.go:210", after := #[{ on := 6, ground := Ground.data }], guard := none }) (v := ?_) rfl (by kernel_rfl) (by kernel_rfl) (by kernel_rfl) (fun _ _ _ h => h) (Or.inl ⟨by kernel_rfl, ?_⟩) hHeld ?_
              rotate_left
              · intro w hSw
                obtain ⟨hs0, hs1, hs2, hs3, hs4, hs5⟩ := hSw
                go_simp
                try with_reducible rfl
              try simp only [Act.put, List.setIfInBounds_toArray, List.set_cons_zero, List.set_cons_succ]
              refine wpAnyH_take (i := 8) (oi := { dst := some 55, op := Op.extract (Operand.tmp 47) 1, type := 4, pos := "domain.go:210", after := #[{ on := 6, ground := Ground.data }, { on := 10, ground := Ground.gcOnly Go.Departure.lateStores }], guard := none }) (v := ?_) rfl (by kernel_rfl) (by kernel_rfl) (by kernel_rfl) (fun _ _ _ h => h) (Or.inl ⟨by kernel_rfl, ?_⟩) hHeld ?_
              rotate_left
              · intro w hSw
                obtain ⟨hs0, hs1, hs2, hs3, hs4, hs5⟩ := hSw
                go_simp
                try with_reducible rfl
              try simp only [Act.put, List.setIfInBounds_toArray, List.set_cons_zero, List.set_cons_succ]
              refine wpAnyH_ready (rs := [10]) (by kernel_rfl) (by simp) ?_
              refine AllReadyH.cons (o := { dst := none, op := Op.store 22 (Operand.tmp 11) (Operand.tmp 54), type := 0, pos := "domain.go:210", after := #[{ on := 9, ground := Ground.data }, { on := 7, ground := Ground.data }, { on := 5, ground := Ground.chain }, { on := 0, ground := Ground.phase }, { on := 1, ground := Ground.phase }, { on := 2, ground := Ground.phase }, { on := 3, ground := Ground.phase }, { on := 4, ground := Ground.phase }, { on := 5, ground := Ground.phase }, { on := 6, ground := Ground.phase }, { on := 7, ground := Ground.phase }, { on := 8, ground := Ground.textOnly Go.Departure.lateStores }, { on := 9, ground := Ground.phase }], guard := none }) rfl (fun K hK => ?_) AllReadyH.nil
              have qq : V3.cell? ⟨qb, 0, none⟩ = some (.slice none 0 0) := by rw [cell_of_row _ _ _ _ _ _ HKQ.out]; rfl
              have fq : V3.frozen? ⟨qb, 0, none⟩ = false := by simp [World.frozen?, HKQ.out]
              go_simp
              refine hK.out _ _ (HSB.out _ (HBV.out.setCell (p := ⟨qb, 0, none⟩) HQB.out _)) (fun hHeld => ?_)
              clear hK K
              try simp only [Act.put, List.setIfInBounds_toArray, List.set_cons_zero, List.set_cons_succ]
              refine wpAnyH_take (i := 11) (oi := { dst := some 12, op := Op.assign (Operand.tmp 55), type := 4, pos := "domain.go:210", after := #[{ on := 8, ground := Ground.data }, { on := 10, ground := Ground.chain }, { on := 0, ground := Ground.phase }, { on := 1, ground := Ground.phase }, { on := 2, ground := Ground.phase }, { on := 3, ground := Ground.phase }, { on := 4, ground := Ground.phase }, { on := 5, ground := Ground.phase }, { on := 6, ground := Ground.phase }, { on := 7, ground := Ground.phase }, { on := 8, ground := Ground.phase }, { on := 9, ground := Ground.phase }, { on := 10, ground := Ground.phase }], guard := none }) (v := ?_) rfl (by kernel_rfl) (by kernel_rfl) (by kernel_rfl) (fun _ _ _ h => h) (Or.inl ⟨by kernel_rfl, ?_⟩) hHeld ?_
              rotate_left
              · intro w hSw
                obtain ⟨hs0, hs1, hs2, hs3, hs4, hs5⟩ := hSw
                go_simp
                try with_reducible rfl
              try simp only [Act.put, List.setIfInBounds_toArray, List.set_cons_zero, List.set_cons_succ]
              refine wpAnyH_done (by kernel_rfl) ?_ _
              dsimp only [onlyN]
              exact ⟨qb, la, lc, rfl, set_row HKQ.out, own_setF HOW.out HKQ.out (by decide), HBV.out.setCell (p := ⟨qb, 0, none⟩) HQB.out _, HQB.out⟩
          · go_simp
            obtain ⟨qb, hqb⟩ : ∃ q, q = V.heap.size := ⟨_, rfl⟩
            have hnx := Below.new1 V (.cells #[.slice none 0 0] 22)
            have hkx := heap_new0 V (.cells #[.slice none 0 0] 22)
            have HQB := Lib.hid (show W.heap.size ≤ qb by have := HBV.out.size; omega)
            have hbx := HBV.out.trans (hnx.mono HBV.out.size)
            try rw [← hqb]
            try rw [← hqb] at hkx
            try rw [← hqb] at hnx
            have HKQ := Lib.hid hkx; have HBX := Lib.hid hbx; have HLAST := Lib.hid (Below.new1 V (.cells #[.slice none 0 0] 22))
            clear hnx hkx hqb
            refine hK.out _ _ (HSB.out _ hbx) (fun hHeld => ?_)
            clear hK K
            try simp only [Act.put, List.setIfInBounds_toArray, List.set_cons_zero, List.set_cons_succ]
            clear hbx
            obtain ⟨V1, hV1⟩ : ∃ X, X = V.alloc (.cells #[.slice none 0 0] 22) := ⟨_, rfl⟩
            rw [← hV1] at HKQ HBX HLAST hHeld ⊢
            clear HBV hV1
            have HBV := Lib.hid HBX.out
            clear HBX
            refine wpAnyH_ready (rs := [1]) (by kernel_rfl) (by simp) ?_
            refine AllReadyH.cons (o := { dst := some 49, op := Op.call { callee := Callee.value (Operand.func 43), args := #[Operand.tmp 48], argTypes := #[25] }, type := 77, pos := "domain.go:210", after := #[{ on := 0, ground := Ground.data }], guard := none }) rfl (fun K hK => ?_) AllReadyH.nil
            go_simp
            refine (HL1.out V1 HBV.out).mono ?_
            rintro e1 V2 ⟨rfl, hb1⟩
            have hbv1 := HBV.out.trans (hb1.mono HBV.out.size)
            have HLAST := Lib.hid hb1
            refine hK.out _ _ (HSB.out _ hbv1) (fun hHeld => ?_)
            clear hK K
            try simp only [Act.put, List.setIfInBounds_toArray, List.set_cons_zero, List.set_cons_succ]
            clear HBV
            have HBV := Lib.hid hbv1
            clear hbv1 hb1
            have hkq := heap_later HKQ.out HLAST.out (Array.getElem?_eq_some_iff.1 HKQ.out).1
            clear HKQ HLAST
            have HKQ := Lib.hid hkq
            clear hkq
            refine wpAnyH_ready (rs := [5]) (by kernel_rfl) (by simp) ?_
            refine AllReadyH.cons (o := { dst := some 53, op := Op.call { callee := Callee.value (Operand.func 68), args := #[Operand.tmp 49, Operand.tmp 50, Operand.tmp 51, Operand.tmp 52], argTypes := #[77, 69, 3, 3] }, type := 103, pos := "domain.go:210", after := #[{ on := 1, ground := Ground.data }, { on := 2, ground := Ground.data }, { on := 3, ground := Ground.data }, { on := 4, ground := Ground.data }, { on := 1, ground := Ground.chain }], guard := none }) rfl (fun K hK => ?_) AllReadyH.nil
            go_simp
            refine (HL2.out V2 HBV.out).mono ?_
            rintro e1 V3 ⟨lv, rfl, hown, hb1⟩
            rw [ofAt_length] at hown
            obtain ⟨la, lc, rfl⟩ := own_form hown
            have hbv1 := HBV.out.trans (hb1.mono HBV.out.size)
            have HOW := Lib.hid (own_mono hown HBV.out.size)
            have HLAST := Lib.hid hb1
            refine hK.out _ _ (HSB.out _ hbv1) (fun hHeld => ?_)
            clear hK K
            try simp only [Act.put, List.setIfInBounds_toArray, List.set_cons_zero, List.set_cons_succ]
            clear HBV hown
            have HBV := Lib.hid hbv1
            clear hbv1 hb1
            have hkq := heap_later HKQ.out HLAST.out (Array.getElem?_eq_some_iff.1 HKQ.out).1
            clear HKQ HLAST
            have HKQ := Lib.hid hkq
            clear hkq
            refine wpAnyH_take (i := 6) (oi := { dst := some 47, op := Op.move (Operand.tmp 53), type := 103, pos := "domain.go:210", after := #[{ on := 5, ground := Ground.data }], guard := none }) (v := ?_) rfl (by kernel_rfl) (by kernel_rfl) (by kernel_rfl) (fun _ _ _ h => h) (Or.inl ⟨by kernel_rfl, ?_⟩) hHeld ?_
            rotate_left
            · intro w hSw
              obtain ⟨hs0, hs1, hs2, hs3, hs4, hs5⟩ := hSw
              go_simp
              try with_reducible rfl
            try simp only [Act.put, List.setIfInBounds_toArray, List.set_cons_zero, List.set_cons_succ]
            refine wpAnyH_take (i := 7) (oi := { dst := some 54, op := Op.extract (Operand.tmp 47) 0, type := 22, pos := "domain.go:210", after := #[{ on := 6, ground := Ground.data }], guard := none }) (v := ?_) rfl (by kernel_rfl) (by kernel_rfl) (by kernel_rfl) (fun _ _ _ h => h) (Or.inl ⟨by kernel_rfl, ?_⟩) hHeld ?_
            rotate_left
            · intro w hSw
              obtain ⟨hs0, hs1, hs2, hs3, hs4, hs5⟩ := hSw
              go_simp
              try with_reducible rfl
            try simp only [Act.put, List.setIfInBounds_toArray, List.set_cons_zero, List.set_cons_succ]
            refine wpAnyH_take (i := 8) (oi := { dst := some 55, op := Op.extract (Operand.tmp 47) 1, type := 4, pos := "domain.go:210", after := #[{ on := 6, ground := Ground.data }, { on := 10, ground := Ground.gcOnly Go.Departure.lateStores }], guard := none }) (v := ?_) rfl (by kernel_rfl) (by kernel_rfl) (by kernel_rfl) (fun _ _ _ h => h) (Or.inl ⟨by kernel_rfl, ?_⟩) hHeld ?_
            rotate_left
            · intro w hSw
              obtain ⟨hs0, hs1, hs2, hs3, hs4, hs5⟩ := hSw
              go_simp
              try with_reducible rfl
            try simp only [Act.put, List.setIfInBounds_toArray, List.set_cons_zero, List.set_cons_succ]
            refine wpAnyH_ready (rs := [10]) (by kernel_rfl) (by simp) ?_
            refine AllReadyH.cons (o := { dst := none, op := Op.store 22 (Operand.tmp 11) (Operand.tmp 54), type := 0, pos := "domain.go:210", after := #[{ on := 9, ground := Ground.data }, { on := 7, ground := Ground.data }, { on := 5, ground := Ground.chain }, { on := 0, ground := Ground.phase }, { on := 1, ground := Ground.phase }, { on := 2, ground := Ground.phase }, { on := 3, ground := Ground.phase }, { on := 4, ground := Ground.phase }, { on := 5, ground := Ground.phase }, { on := 6, ground := Ground.phase }, { on := 7, ground := Ground.phase }, { on := 8, ground := Ground.textOnly Go.Departure.lateStores }, { on := 9, ground := Ground.phase }], guard := none }) rfl (fun K hK => ?_) AllReadyH.nil
            have qq : V3.cell? ⟨qb, 0, none⟩ = some (.slice none 0 0) := by rw [cell_of_row _ _ _ _ _ _ HKQ.out]; rfl
            have fq : V3.frozen? ⟨qb, 0, none⟩ = false := by simp [World.frozen?, HKQ.out]
            go_simp
            refine hK.out _ _ (HSB.out _ (HBV.out.setCell (p := ⟨qb, 0, none⟩) HQB.out _)) (fun hHeld => ?_)
            clear hK K
            try simp only [Act.put, List.setIfInBounds_toArray, List.set_cons_zero, List.set_cons_succ]
            refine wpAnyH_take (i := 11) (oi := { dst := some 12, op := Op.assign (Operand.tmp 55), type := 4, pos := "domain.go:210", after := #[{ on := 8, ground := Ground.data }, { on := 10, ground := Ground.chain }, { on := 0, ground := Ground.phase }, { on := 1, ground := Ground.phase }, { on := 2, ground := Ground.phase }, { on := 3, ground := Ground.phase }, { on := 4, ground := Ground.phase }, { on := 5, ground := Ground.phase }, { on := 6, ground := Ground.phase }, { on := 7, ground := Ground.phase }, { on := 8, ground := Ground.phase }, { on := 9, ground := Ground.phase }, { on := 10, ground := Ground.phase }], guard := none }) (v := ?_) rfl (by kernel_rfl) (by kernel_rfl) (by kernel_rfl) (fun _ _ _ h => h) (Or.inl ⟨by kernel_rfl, ?_⟩) hHeld ?_
            rotate_left
            · intro w hSw
              obtain ⟨hs0, hs1, hs2, hs3, hs4, hs5⟩ := hSw
              go_simp
              try with_reducible rfl
            try simp only [Act.put, List.setIfInBounds_toArray, List.set_cons_zero, List.set_cons_succ]
            refine wpAnyH_done (by kernel_rfl) ?_ _
            dsimp only [onlyN]
            exact ⟨qb, la, lc, rfl, set_row HKQ.out, own_setF HOW.out HKQ.out (by decide), HBV.out.setCell (p := ⟨qb, 0, none⟩) HQB.out _, HQB.out⟩
        case hq =>
          rintro qb la lc W2 ⟨kq, how, hb2, hqb⟩
          have m1 := heap_later K1.out hb2 zW
          have zq : qb < W2.heap.size := (Array.getElem?_eq_some_iff.1 kq).1
          have zr : w1.heap.size < W2.heap.size := (Array.getElem?_eq_some_iff.1 m1).1
          have hus := owns_us how (by omega) (ofAt_length _ r a v)
          have t0 : W2.cell? ⟨w1.heap.size, 0, none⟩ = some (.int .i64 r.kind) := by rw [cell_of_row _ _ _ _ _ _ m1]; rfl
          have t1 : W2.cell? ⟨w1.heap.size, 1, none⟩ = some (.slice va r.vars.length vc) := by rw [cell_of_row _ _ _ _ _ _ m1]; rfl
          have t2 : W2.cell? ⟨w1.heap.size, 2, none⟩ = some (.slice na r.nums.length nc) := by rw [cell_of_row _ _ _ _ _ _ m1]; rfl
          have t3 : W2.cell? ⟨w1.heap.size, 3, none⟩ = some (.int .i64 r.n) := by rw [cell_of_row _ _ _ _ _ _ m1]; rfl
          have tq : W2.cell? ⟨qb, 0, none⟩ = some (.slice la r.vars.length lc) := by rw [cell_of_row _ _ _ _ _ _ kq]; rfl
          have HPO := Lib.hid (possible_any r HRD.out (ofAt (padD p.doms) r a v) _ _ _ W2 ((HRA.out.below (HBW.out.trans (hb2.mono HBW.out.size)) hB).mono (B' := W2.heap.size) (by omega)) hus (by omega) (Nat.le_refl _) (HT.out.below (HBW.out.trans (hb2.mono HBW.out.size)) (by omega)) (ofAt_length _ r a v) (fun i _ => ofAt_lt (padD_ok HP.out) r a v i))
          have HBT := Lib.hid (HBW.out.trans (hb2.mono HBW.out.size)); have HB2 := Lib.hid hb2; have HKQ := Lib.hid kq; have HOW := Lib.hid how; have HM1 := Lib.hid m1
          clear m1 kq how hb2 hus
          cases hh : hasD (nget (ofD (padD p.doms) r.vars) a) v
          case false =>
            have HE : Hid (supE p (k : Int) (a : Int) v = 5) := Lib.hid (by rw [HSE2.out]; unfold suppD; rw [hh]; rfl)
            go_wp2
            rw [Exit.noGoto_ret]
            refine bodyM_ret0 (results_tmp2 (t := 8) (u := 9) rfl _ _ _) rfl ?_
            exact SupP.bad HE.out (by decide) HBT.out
          case true =>
            have HSE3 : Hid (supE p (k : Int) (a : Int) v = if possD r (ofAt (padD p.doms) r a v) then 0 else 5) := Lib.hid (by rw [HSE2.out]; unfold suppD ofAt; rw [hh]; rfl)
            unfold ruleV at HPO
            go_wp2_with fail
            refine HPO.out.mono ?_
            rintro e W3 ⟨rfl, hb3⟩
            have HB3 := Lib.hid hb3
            clear hb3 t0 t1 t2 t3 tq HPO
            cases hps : possD r (ofAt (padD p.doms) r a v)
            case false =>
              have HE : Hid (supE p (k : Int) (a : Int) v = 5) := Lib.hid (by rw [HSE3.out, hps]; rfl)
              go_wp2
              rw [Exit.noGoto_ret]
              refine bodyM_ret0 (results_tmp2 (t := 8) (u := 9) rfl _ _ _) rfl ?_
              exact SupP.bad HE.out (by decide) (HBT.out.trans (HB3.out.mono HBT.out.size))
            case true =>
              have HE : Hid (supE p (k : Int) (a : Int) v = 0) := Lib.hid (by rw [HSE3.out, hps]; rfl)
              have kq3 := heap_later HKQ.out HB3.out zq
              have tq : W3.cell? ⟨qb, 0, none⟩ = some (.slice la r.vars.length lc) := by rw [cell_of_row _ _ _ _ _ _ kq3]; rfl
              go_wp2_with fail
              have HN3 := Lib.hid (heap_new0 W3 (.cells #[.slice none 0 0] 39)); have HX3 := Lib.hid (Below.new1 W3 (.cells #[.slice none 0 0] 39))
              refine abs_wp (fun W4 => W4.heap[W3.heap.size]? = some (.cells #[.slice none 0 0] 39 (0, 0)) ∧ Below W3.heap.size W3 W4) ⟨HN3.out, HX3.out⟩ ?_
              clear HN3 HX3
              rintro W4 ⟨k4, hb4⟩
              have kq4 := heap_later kq3 hb4 (Array.getElem?_eq_some_iff.1 kq3).1
              have tq4 : W4.cell? ⟨qb, 0, none⟩ = some (.slice la r.vars.length lc) := by rw [cell_of_row _ _ _ _ _ _ kq4]; rfl
              have K4 := Lib.hid k4; have HB4 := Lib.hid hb4; have HKQ4 := Lib.hid kq4
              clear tq k4 hb4 kq3 kq4
              obtain ⟨g, _, _, hae, hgW, _, _, _, _⟩ := own_some HOW.out (by omega)
              cases hae
              obtain ⟨l0, hl0⟩ : ∃ l0, l0 = ofAt (padD p.doms) r a v := ⟨_, rfl⟩
              have how4 := own_ck (own_ck HOW.out (CK.below HB3.out)) (CK.below HB4.out)
              rw [← hl0] at how4
              have hl0n : l0.length = r.vars.length := by rw [hl0]; exact ofAt_length _ r a v
              have hl0t : ∀ j, nget l0 j < 65536 := by rw [hl0]; exact ofAt_lt (padD_ok HP.out) r a v
              have hsj : SJ r #[.int .i64 r.kind, .slice va r.vars.length vc, .slice na r.nums.length nc, .int .i64 r.n] w1.heap.size qb W3.heap.size W.heap.size g lc (.slice none 0 0) l0 [] W4 :=
                ⟨heap_later (heap_later HM1.out HB3.out zr) HB4.out (by have := HB3.out.size; omega), HKQ4.out, K4.out, how4, World.ownsRow_nil _ _ _ _⟩
              have HSJ := Lib.hid hsj; have HL0 := Lib.hid hl0; have HL0N := Lib.hid hl0n; have HL0T := Lib.hid hl0t
              have hb04 := (HBT.out.trans (HB3.out.mono HBT.out.size)).trans (HB4.out.mono (by have := HBT.out.size; have := HB3.out.size; omega))
              have HB04 := Lib.hid hb04
              have zo : W3.heap.size < W4.heap.size := (Array.getElem?_eq_some_iff.1 K4.out).1
              have zW3 : W2.heap.size ≤ W3.heap.size := HB3.out.size
              have zW2 : W.heap.size ≤ W2.heap.size := HB2.out.size
              have zW4 : W2.heap.size ≤ W4.heap.size := by have := HB3.out.size; omega
              have hzg : g < W4.heap.size := by
                obtain ⟨cur, h1, _⟩ := own_block how4
                exact (Array.getElem?_eq_some_iff.1 h1).1
              clear how4 hl0 hl0n hl0t hsj hb04 K4 HB4 HKQ4 HB3 HKQ HOW HM1 HB2 K0 K1 HBT HL1 HL2 HSB HK1
              go_step3
              go_wp2_with fail
              refine wp_loop (fun a Wz => a.tmps.size = 88 ∧ ∃ (i : Nat) (Ds : List Nat) (ov : Value) (l : List Nat) (xs : List Int), (a.tmps.getD 10 undef = .pointer (some ⟨w1.heap.size, 0, none⟩) ∧ a.tmps.getD 11 undef = .pointer (some ⟨qb, 0, none⟩) ∧ a.tmps.getD 13 undef = .pointer (some ⟨W3.heap.size, 0, none⟩) ∧ a.tmps.getD 64 undef = .slice (some ⟨g, 0, none⟩) r.vars.length lc ∧ a.tmps.getD 65 undef = .int .i64 r.vars.length ∧ a.tmps.getD 66 undef = .int .i64 i) ∧
                  a.defers = Ds.map mark ∧ i ≤ r.vars.length ∧ SJ r #[.int .i64 r.kind, .slice va r.vars.length vc, .slice na r.nums.length nc, .int .i64 r.n] w1.heap.size qb W3.heap.size W.heap.size g lc ov l xs Wz ∧ Below w.heap.size w Wz ∧ W4.heap.size ≤ Wz.heap.size ∧ Ds.Nodup ∧ (∀ D ∈ Ds, w.heap.size ≤ D ∧ Wz.heap[D]? = some (.deferred (some []))) ∧
                  l.length = r.vars.length ∧ (∀ j, nget l j < 65536) ∧ xs ++ witD r (r.vars.length - i) i l = witD r r.vars.length 0 l0 ∧ xs.length ≤ i)
                (fun a _ => r.vars.length - (intOf (a.tmps.getD 66 undef)).toNat) ?h0 ?round
              case h0 =>
                exact ⟨rfl, 0, [], .slice none 0 0, l0, [], ⟨rfl, rfl, rfl, rfl, rfl, rfl⟩, rfl, Nat.zero_le _, HSJ.out, HB04.out, Nat.le_refl _, List.nodup_nil, (fun D hD => by cases hD), HL0N.out, HL0T.out, rfl, Nat.zero_le _⟩
              case round =>
                rintro ⟨t, ds⟩ Wi ⟨hsz, i, Ds, ov, l, xs, ⟨h10, h11, h13, h64, h65, h66⟩, hds, hi, hsj, hbi, hsi, hnd, hD, hln, hlt, hwit, hxi⟩
                obtain ⟨f, rfl⟩ := sup_frame t hsz h10 h11 h13 h64 h65 h66
                simp only at hds
                subst hds
                clear hsz h10 h11 h13 h64 h65 h66
                by_cases hir : i < r.vars.length
                · have e0 : Wi.cell? ⟨g, i, none⟩ = some (.int .u64 (nget l i : Nat)) := by rw [hsj.own.cellAt i (by omega), natsV_get l i (by omega)]
                  have HSI := Lib.hid hsj; have HBI := Lib.hid hbi; have HND := Lib.hid hnd; have HD := Lib.hid hD; have HLN := Lib.hid hln; have HLT := Lib.hid hlt; have HWIT := Lib.hid hwit
                  clear hsj hbi hnd hD hln hlt hwit
                  go_wp2_with fail
                  refine abs_calls (fun V => V.heap[Wi.heap.size]? = some (.cells #[.int .i64 (i : Nat)] 3 (0, 0)) ∧ Below Wi.heap.size Wi V ∧ Wi.heap.size + 1 = V.heap.size) ⟨heap_new0 _ _, Below.new1 _ _, by simp⟩ ?_
                  rintro W5 ⟨ki, hb5, hs5⟩
                  have hd16 : nget l i < 65536 := HLT.out i
                  obtain ⟨d, hd⟩ : ∃ d, d = nget l i := ⟨_, rfl⟩
                  rw [← hd]
                  rw [← hd] at hd16
                  refine (values_any d W5).mono ?_
                  rintro e w6 ⟨rfl, hw6⟩
                  have kB : w6.heap[W5.heap.size]? = some (.cells #[.int .u64 (d : Nat)] 56 (0, 0)) := by rw [← hw6]; exact heap_new0 _ _
                  have hb6 : Below W5.heap.size W5 w6 := by rw [← hw6]; exact Below.new1 _ _
                  have hs6 : W5.heap.size + 1 = w6.heap.size := by rw [← hw6]; simp
                  have hbi6 := hb5.trans (hb6.mono (by omega))
                  have hs6j := HSI.out.ck (CK.below hbi6)
                  have hD6 : ∀ D ∈ Ds, w.heap.size ≤ D ∧ D < Wi.heap.size ∧ w6.heap[D]? = some (.deferred (some [])) := fun D h => by
                    have h1 := HD.out D h
                    have h2 := (Array.getElem?_eq_some_iff.1 h1.2).1
                    exact ⟨h1.1, h2, heap_later h1.2 hbi6 h2⟩
                  have hov : ∀ k, ov.ownBlock = some k → k < Wi.heap.size := fun k hk => (HSI.out.out.lt k hk).2
                  have KB := Lib.hid kB; have KI := Lib.hid (heap_later ki hb6 (by omega)); have HS6 := Lib.hid hs6j; have HD6 := Lib.hid hD6; have HOV := Lib.hid hov; have HBI6 := Lib.hid (HBI.out.trans (hbi6.mono HBI.out.size)); have HDD := Lib.hid hd
                  have HBI66 := Lib.hid hbi6
                  clear hw6 ki hb5 kB hb6 hbi6 hs6j hD6 hov e0 hd
                  go_wp2_with fail
                  refine wpIn_wide.1 (rangeElems (n := 0) W5.heap.size d rfl (Nat.lt_trans hd16 (by decide)) KB.out (by show W5.heap.size ≠ 0; omega)
                    (fun pre Z => SJ r #[.int .i64 r.kind, .slice va r.vars.length vc, .slice na r.nums.length nc, .int .i64 r.n] w1.heap.size qb W3.heap.size W.heap.size g lc ov (lastD l i pre) xs Z ∧ Frm2 W5.heap.size g w6 Z ∧ ∀ v ∈ pre, possD r (l.set i (bitN v)) = false)
                    (fun c pre Z => c = Code.exit 1 ∧ ∃ x pre0 rest ov', elems d = pre0 ++ x :: rest ∧ (∀ v ∈ pre0, possD r (l.set i (bitN v)) = false) ∧ possD r (l.set i (bitN x)) = true ∧ SJ r #[.int .i64 r.kind, .slice va r.vars.length vc, .slice na r.nums.length nc, .int .i64 r.n] w1.heap.size qb W3.heap.size W.heap.size g lc ov' (l.set i (bitN x)) (xs ++ [(x : Int)]) Z ∧ (∀ k, ov'.ownBlock = some k → k ≠ W5.heap.size) ∧ Below w.heap.size w Z ∧ w6.heap.size ≤ Z.heap.size ∧ ∀ D ∈ Ds, Z.heap[D]? = some (.deferred (some [])))
                    (fun pre Z Z' h ht => ⟨h.1.touched ht (by omega) (by omega) (by omega) (by omega) (fun k hk => by have := HOV.out k hk; omega), h.2.1.touched ht, h.2.2⟩)
                    (fun c pre Z Z' ⟨h1, x, pre0, rest, ov', h2, h3, h4, h5, h6, h7, h8, h9⟩ ht => ⟨h1, x, pre0, rest, ov', h2, h3, h4, h5.touched ht (by omega) (by omega) (by omega) (by omega) h6, h6, below_touched h7 ht (by omega) (by omega) (Nat.le_refl _), Nat.le_trans h8 ht.size, fun D hD => ht.same D _ (h9 D hD) (by have := (HD6.out D hD).2.1; omega) (.inl (by have := (HD6.out D hD).2.1; omega))⟩)
                    (fun pre Z h => HT.out.below (h.2.1.below HBI6.out (by omega) (by omega) (by omega)) (by omega)) ⟨HS6.out, Frm2.refl _ _ _, fun e he => absurd he (by simp)⟩ ?rnd ?done ?stop)
                  case rnd =>
                    intro lp pre x rest Z hel
                    gi_wp2
                    refine ⟨trivial, ?_⟩
                    rintro V2 ⟨hj, hfr, hpre⟩ hBs0 hL2
                    have hx16 : x < 16 := elems16 hd16 (by rw [hel]; simp)
                    have hx64 : x < 64 := by omega
                    have ki := hfr.heap KI.out (by omega) (by omega)
                    have tq : V2.cell? ⟨qb, 0, none⟩ = some (.slice (some ⟨g, 0, none⟩) r.vars.length lc) := by rw [cell_of_row _ _ _ _ _ _ hj.kq]; rfl
                    have ti : V2.cell? ⟨Wi.heap.size, 0, none⟩ = some (.int .i64 (i : Nat)) := by rw [cell_of_row _ _ _ _ _ _ ki]; rfl
                    have y1 : qb < V2.heap.size := (Array.getElem?_eq_some_iff.1 hj.kq).1
                    have y2 : Wi.heap.size < V2.heap.size := (Array.getElem?_eq_some_iff.1 ki).1
                    have hirI : ((i : Nat) : Int) < ((r.vars.length : Nat) : Int) := by omega
                    have HBS0 := Lib.hid hBs0; have HJ := Lib.hid hj; have HFR := Lib.hid hfr; have HPRE := Lib.hid hpre; have HKI := Lib.hid ki; have HEL := Lib.hid hel
                    clear hj hfr hpre ki hBs0 hel
                    gi_wp2_with fail
                    refine wpIn_region_qbt 4 (by kernel_rfl) (by kernel_rfl) (by rintro ⟨a, w, h⟩; exact h) ?_
                    simp only [List.take_succ_cons, List.take_zero, List.drop_succ_cons, List.drop_zero]
                    repeat go_big_quiet_step ((exact Gives.quiet (Gives.of_same (one_any x _ hx64))))
                    refine wpQuiet_nil ?_
                    intro V3 hb3
                    have hj3 := HJ.out.ck (CK.below hb3)
                    have eg : V3.cell? ⟨g, i, none⟩ = some (.int .u64 (nget (lastD l i pre) i : Nat)) := by rw [hj3.own.cellAt i (by omega), natsV_get _ i (by rw [lastD_length, HLN.out]; omega)]
                    have fg : V3.frozen? ⟨g, i, none⟩ = false := hj3.own.frozenAt i
                    have hj4 := hj3.put i (bitN x)
                    rw [← lastD_snoc, lastD_last] at hj4
                    have HJ4 := Lib.hid hj4; have HB3 := Lib.hid hb3
                    clear hj3 hb3 hj4 tq ti
                    go_wp2_with fail
                    refine abs_in (fun V4 => SJ r #[.int .i64 r.kind, .slice va r.vars.length vc, .slice na r.nums.length nc, .int .i64 r.n] w1.heap.size qb W3.heap.size W.heap.size g lc ov (l.set i (bitN x)) xs V4 ∧ Frm g V2 V4) ⟨HJ4.out, (Frm.of_below HB3.out).setSelf _ _⟩ ?_
                    clear eg fg HJ4 HB3
                    rintro V4 ⟨hj4, hf4⟩
                    have t0 : V4.cell? ⟨w1.heap.size, 0, none⟩ = some (.int .i64 r.kind) := by rw [cell_of_row _ _ _ _ _ _ hj4.k1]; rfl
                    have t1 : V4.cell? ⟨w1.heap.size, 1, none⟩ = some (.slice va r.vars.length vc) := by rw [cell_of_row _ _ _ _ _ _ hj4.k1]; rfl
                    have t2 : V4.cell? ⟨w1.heap.size, 2, none⟩ = some (.slice na r.nums.length nc) := by rw [cell_of_row _ _ _ _ _ _ hj4.k1]; rfl
                    have t3 : V4.cell? ⟨w1.heap.size, 3, none⟩ = some (.int .i64 r.n) := by rw [cell_of_row _ _ _ _ _ _ hj4.k1]; rfl
                    have tq : V4.cell? ⟨qb, 0, none⟩ = some (.slice (some ⟨g, 0, none⟩) r.vars.length lc) := by rw [cell_of_row _ _ _ _ _ _ hj4.kq]; rfl
                    have HJ4 := Lib.hid hj4; have HF4 := Lib.hid hf4
                    clear hj4 hf4
                    gi_wp2_with fail
                    have hzz : w1.heap.size ≤ V4.heap.size ∧ W.heap.size ≤ V4.heap.size ∧ B ≤ V4.heap.size := by
                      have := HF4.out.size; have := HFR.out.size; omega
                    have hb0V4 : Below w.heap.size w V4 := Frm.below (HFR.out.below HBI6.out (by omega) (by omega) (by omega)) HF4.out (by omega) (by have := HFR.out.size; omega)
                    have hus := owns_us HJ4.out.own (by omega) (by rw [List.length_set, HLN.out])
                    refine (CallsIn.inRound lp (callsIn_wide.2 (possible_any r HRD.out (l.set i (bitN x)) _ _ _ V4 ((HRA.out.below hb0V4 hB).mono (B' := V4.heap.size) (by omega)) hus (by omega) (Nat.le_refl _) (HT.out.below hb0V4 (by omega)) (by rw [List.length_set, HLN.out]) (fun j _ => by rw [← lastD_last l i [] x]; exact lastD_lt HLT.out (by intro v hv; rw [List.nil_append, List.mem_singleton] at hv; omega) j)))).mono ?_
                    rintro e V5 ⟨rfl, hb5⟩
                    have HJ5 := Lib.hid (HJ4.out.ck (CK.below hb5)); have HF5 := Lib.hid (HF4.out.next (Frm.of_below hb5)); have HB5 := Lib.hid (hb0V4.trans (hb5.mono hb0V4.size))
                    clear hb5 hus t0 t1 t2 t3 tq hb0V4 HJ4 HF4
                    cases hps2 : possD r (l.set i (bitN x))
                    case false =>
                      have HPS := Lib.hid hps2
                      clear hps2
                      gi_wp2
                      refine ⟨Keep.frm HF5.out (by omega) (by omega), by rw [lastD_last]; exact HJ5.out, HFR.out.step HF5.out, fun v hv => ?_⟩
                      rcases List.mem_append.1 hv with hv | hv
                      · exact HPRE.out v hv
                      · rw [List.mem_singleton.1 hv]; exact HPS.out
                    case true =>
                      have HPS := Lib.hid hps2
                      have to : V5.cell? ⟨W3.heap.size, 0, none⟩ = some ov := by rw [cell_of_row _ _ _ _ _ _ HJ5.out.ko]; rfl
                      obtain ⟨oa, oc, rfl⟩ := own_form HJ5.out.out
                      obtain ⟨i0, hin, hz0, hz1, hz2⟩ := info_parts infoI
                      clear hps2
                      have hnw := Below.new1 V5 (.cells #[.int .i64 (x : Nat)] 3)
                      have HNW := Lib.hid hnw
                      clear hnw
                      gi_wp2_with (gi_at_builtin; refine wpListIn_append_own _ rfl _ _ 39 rfl W.heap.size 3 i0 (.int .i64 0) 1 8 Tryz.underlying39 hin hz0 hz1 hz2 rfl (by decide) _ _ _ rfl (HJ5.out.out.alloc _) ⟨V5.heap.size, 0, none⟩ 1 1 [.int .i64 (x : Nat)] rfl rfl ?c1 ?c2 ?c3 ?c4 ?c5 ?_)
                      case c1 =>
                        intro q u hq
                        match q, hq with
                        | 0, hq => cases hq; rw [Addr.add_lit, Nat.zero_add, cell_of_row _ _ _ _ _ _ (heap_new0 V5 _)]; rfl
                      case c2 => intro u hu; rw [List.mem_singleton.1 hu]; rfl
                      case c3 => unfold maxLen; omega
                      case c4 => omega
                      case c5 => have := HF5.out.size; simp; omega
                      intro v' V7 hown3 hgrow3 _
                      obtain ⟨g5, cp, rfl⟩ := Slice.own_succ hown3
                      have HJ6 := HJ5.out.ck (CK.below HNW.out)
                      have e7 : V7.heap[W3.heap.size]? = some (.cells #[.slice oa xs.length oc] 39 (0, 0)) := (hgrow3.block _ (Array.getElem?_eq_some_iff.1 HJ6.ko).1 (fun hh => own_apart HJ6.out HJ6.ko (by decide) _ hh.symm rfl)).trans HJ6.ko
                      have o7 : V7.cell? ⟨W3.heap.size, 0, none⟩ = some (.slice oa xs.length oc) := by rw [cell_of_row _ _ _ _ _ _ e7]; rfl
                      have f7 : V7.frozen? ⟨W3.heap.size, 0, none⟩ = false := by simp [World.frozen?, e7]
                      have hovB : ∀ k, (Value.slice oa xs.length oc).ownBlock = some k → k ≠ W5.heap.size := fun k hk => by have := HOV.out k hk; omega
                      have hk6 : Keep W5.heap.size w6.heap.size V2 (V5.alloc (.cells #[.int .i64 (x : Nat)] 3)) := (Keep.frm HF5.out (by omega) (by omega)).below HNW.out
                      have hk7 := hk6.grown HJ6.out hgrow3 hovB
                      have HJ8 := Lib.hid (HJ6.app hgrow3 hown3)
                      have HK8 := Lib.hid (hk7.setCell (p := ⟨W3.heap.size, 0, none⟩) (by show W3.heap.size ≠ W5.heap.size; omega) (.slice (some ⟨g5, 0, none⟩) (xs.length + 1) cp))
                      obtain ⟨cB, hcB⟩ := HBS0.out
                      have hB7 := hk7 _ _ hcB (.inl rfl)
                      have HOB := Lib.hid (own_other hown3 hB7 (fun c f hh => by cases hh))
                      have hb7 := (HB5.out.trans (HNW.out.mono HB5.out.size)).grown hgrow3 (by have := HB5.out.size; simp; omega) (fun q hq => by have := (HJ6.out.lt q hq).1; omega)
                      have HB8 := Lib.hid (hb7.setCell (p := ⟨W3.heap.size, 0, none⟩) (show w.heap.size ≤ W3.heap.size by omega) (.slice (some ⟨g5, 0, none⟩) (xs.length + 1) cp))
                      have HS8 := Lib.hid (show w6.heap.size ≤ V7.heap.size by have h1 := hgrow3.size; have h2 := HF5.out.size; rw [World.size_alloc] at h1; omega)
                      have hD8 : ∀ D ∈ Ds, (V7.setCell ⟨W3.heap.size, 0, none⟩ (.slice (some ⟨g5, 0, none⟩) (xs.length + 1) cp)).heap[D]? = some (.deferred (some [])) := fun D hD => by
                        have h1 := HD6.out D hD
                        have h2 := HFR.out.heap h1.2.2 (by omega) (fun hh => by subst hh; obtain ⟨cur, hc, _⟩ := own_block HS6.out.own; rw [hc] at h1; cases h1.2.2)
                        have h3 := heap_old (o := .cells #[.int .i64 (x : Nat)] 3) (HF5.out.heap h2 (fun hh => by subst hh; obtain ⟨cur, hc, _⟩ := own_block HS6.out.own; rw [hc] at h1; cases h1.2.2))
                        have h4 := (hgrow3.block D (Array.getElem?_eq_some_iff.1 h3).1 (fun hh => own_other HJ6.out h3 (fun c f hh => by cases hh) _ hh.symm rfl)).trans h3
                        exact (Below.heap_setCell _ _ _ _ (fun hh => by have hh' : D = W3.heap.size := hh; subst hh'; rw [e7] at h4; cases h4)).trans h4
                      have HD8 := Lib.hid hD8
                      clear hown3 hgrow3 HJ6 e7 hovB hk6 hk7 hcB hB7 hb7 hD8
                      gi_wp2
                      exact ⟨HK8.out, rfl, x, pre, rest, _, HEL.out, HPRE.out, HPS.out, HJ8.out, HOB.out, HB8.out, by simpa [World.setCell] using HS8.out, HD8.out⟩
                  case done =>
                    rintro D V hDw ⟨hj, hfr, hall⟩ hDm
                    have hbV := hfr.below HBI6.out (by omega) (by omega) (by omega)
                    have gD : ∀ D' ∈ D :: Ds, w.heap.size ≤ D' ∧ V.heap[D']? = some (.deferred (some [])) := fun D' h => by
                      rcases List.mem_cons.1 h with rfl | h
                      · exact ⟨by omega, hDm⟩
                      · have h1 := HD6.out D' h
                        exact ⟨h1.1, hfr.heap h1.2.2 (by omega) (fun hh => by subst hh; obtain ⟨cur, hc, _⟩ := own_block HS6.out.own; rw [hc] at h1; cases h1.2.2)⟩
                    have gnd : (D :: Ds).Nodup := List.nodup_cons.2 ⟨fun h => by have := (HD6.out D h).2.1; omega, HND.out⟩
                    have hlt2 : ∀ j, nget (lastD l i (elems d)) j < 65536 := lastD_lt HLT.out (fun v hv => elems16 hd16 hv)
                    have hw2 : xs ++ witD r (r.vars.length - (i + 1)) (i + 1) (lastD l i (elems d)) = witD r r.vars.length 0 l0 := by
                      rw [← HWIT.out, show r.vars.length - i = (r.vars.length - (i + 1)) + 1 by omega, witD_miss (by rw [← HDD.out]; exact hall), ← HDD.out]
                    have hsz : W4.heap.size ≤ V.heap.size := by have := hfr.size; omega
                    have GD := Lib.hid gD; have GND := Lib.hid gnd; have HJ := Lib.hid hj; have HBV := Lib.hid hbV; have HL2 := Lib.hid hlt2; have HW2 := Lib.hid hw2
                    clear hj hfr hall hDm hbV gD gnd hlt2 hw2
                    go_wp2
                    refine ⟨⟨rfl, i + 1, D :: Ds, ov, lastD l i (elems d), xs, ⟨rfl, rfl, rfl, rfl, rfl, by go_num⟩, rfl, hir, HJ.out, HBV.out, hsz, GND.out, GD.out, by rw [lastD_length, HLN.out], HL2.out, HW2.out, by omega⟩, ?_⟩
                    simp [intOf]; omega
                  case stop =>
                    rintro D c pre V hDw ⟨rfl, x, pre0, rest, ov', hel, hpre, hpx, hj, hob, hbV, hsz, hDs⟩ hDm
                    have gD : ∀ D' ∈ D :: Ds, w.heap.size ≤ D' ∧ V.heap[D']? = some (.deferred (some [])) := fun D' h => by
                      rcases List.mem_cons.1 h with rfl | h
                      · exact ⟨by omega, hDm⟩
                      · exact ⟨(HD6.out D' h).1, hDs D' h⟩
                    have gnd : (D :: Ds).Nodup := List.nodup_cons.2 ⟨fun h => by have := (HD6.out D h).2.1; omega, HND.out⟩
                    have hx16 : x < 16 := elems16 hd16 (by rw [hel]; simp)
                    have hlt2 : ∀ j, nget (l.set i (bitN x)) j < 65536 := by rw [← lastD_last l i [] x]; exact lastD_lt HLT.out (fun v hv => by rw [List.nil_append, List.mem_singleton] at hv; omega)
                    have hw2 : (xs ++ [(x : Int)]) ++ witD r (r.vars.length - (i + 1)) (i + 1) (l.set i (bitN x)) = witD r r.vars.length 0 l0 := by
                      rw [← HWIT.out, show r.vars.length - i = (r.vars.length - (i + 1)) + 1 by omega, witD_hit (by rw [← HDD.out]; exact hel) hpre hpx, List.append_assoc]; rfl
                    have GD := Lib.hid gD; have GND := Lib.hid gnd; have HJ := Lib.hid hj; have HBV := Lib.hid hbV; have HL2 := Lib.hid hlt2; have HW2 := Lib.hid hw2
                    clear hj hDm hbV gD gnd hlt2 hw2 hel hpre hpx hob hDs
                    gi_wp2
                    go_wp2
                    refine ⟨⟨rfl, i + 1, D :: Ds, ov', l.set i (bitN x), xs ++ [(x : Int)], ⟨rfl, rfl, rfl, rfl, rfl, by go_num⟩, rfl, hir, HJ.out, HBV.out, by omega, GND.out, GD.out, by rw [List.length_set, HLN.out], HL2.out, HW2.out, by rw [List.length_append]; simp; omega⟩, ?_⟩
                    simp [intOf]; omega
                · have hi2 : i = r.vars.length := by omega
                  subst hi2
                  have to : Wi.cell? ⟨W3.heap.size, 0, none⟩ = some ov := by rw [cell_of_row _ _ _ _ _ _ hsj.ko]; rfl
                  have HOUT := Lib.hid hsj.out; have HBI := Lib.hid hbi; have HND := Lib.hid hnd; have HD := Lib.hid hD; have HWIT := Lib.hid hwit
                  obtain ⟨oa, oc, rfl⟩ := own_form hsj.out
                  clear hsj hbi hnd hD hwit hln hlt
                  go_wp2
                  rw [Exit.noGoto_ret]
                  have hxs : supL p (k : Int) (a : Int) v = xs := by
                    unfold supL
                    rw [if_pos HE.out, Int.toNat_natCast, Int.toNat_natCast, ← HR.out, ← HL0.out, ← HWIT.out, Nat.sub_self]
                    simp [witD]
                  show LeavesInM _ _ _ _ _ _ (Ds.map mark) .returning _
                  refine leaves_marks (L := w.heap.size) Ds Wi HND.out HD.out (fun w' hb' hck => ⟨results_tmp2 (t := 8) (u := 9) rfl _ _ _, ?_⟩)
                  refine ⟨_, by rw [HE.out]; rfl, ?_, HBI.out.trans hb'⟩
                  rw [hxs]
                  exact own_mono (own_ck HOUT.out hck) (by omega)
end Go.Proofs.YtdmmegmkdhinjaaGreatDoor
