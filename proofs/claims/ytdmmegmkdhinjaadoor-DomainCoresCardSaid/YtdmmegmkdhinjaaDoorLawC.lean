/- The law DomainCores, walked. -/
import Derived.Test.YtdmmegmkdhinjaaDoorCores1
import Derived.Test.YtdmmegmkdhinjaaDoorLawO
import Derived.Test.YtdmmegmkdhinjaaDoorLawA
import Derived.Test.YtdmmegmkdhinjaaDoorRefS
namespace Go.Proofs.YtdmmegmkdhinjaaDoor
open Go Go.RowKit
attribute [local go_sem] cell_grow u64_sAnd u64_sOr u64_sDiff sDiff_all zeqI zneI sAnd_bit_zero sAnd_bit_zeroN sAnd_bit_nonzero

theorem core_err {p : Dp} (hp : probD p = true) {n : Nat} (hn : n < (propD p).2.length) : coreE p (propD p).2 n = 0 := by
  unfold coreE
  have : inB (n : Int) 0 (((propD p).2.length : Int) - 1) = true := by unfold inB; simp; omega
  rw [hp, this, prop_right hp]; rfl
theorem core_lst {p : Dp} (hp : probD p = true) {n : Nat} (hn : n < (propD p).2.length) : coreL p (propD p).2 n = coreD p (propD p).2 n := by
  unfold coreL; rw [if_pos (core_err hp hn), Int.toNat_natCast]
/-- Where something was cut, no domain was empty. -/
theorem cut_full {p : Dp} (hn : 0 < (propD p).2.length) (h8 : p.doms.length ≤ 8) : p.doms.contains 0 = false := by
  have e : (padD p.doms).take p.doms.length = p.doms := by unfold padD; exact List.take_left' rfl
  unfold propD runD at hn
  rw [e] at hn
  cases h : p.doms.contains 0
  · rfl
  · rw [h, if_pos rfl] at hn; simp at hn
theorem rCells_snoc {c : Nat → Value} {ns : List Nat} {i : Nat} (h : i < ns.length) : rCells c (ns.take (i + 1)) = rCells c (ns.take i) ++ [c (nget ns i * 4), c (nget ns i * 4 + 1), c (nget ns i * 4 + 2), c (nget ns i * 4 + 3)] := by
  have e : nget ns i = ns[i] := by unfold nget; rw [List.getElem?_eq_getElem h]; rfl
  rw [List.take_succ_eq_append_getElem h, e]
  unfold rCells
  rw [List.flatMap_append]
  simp
theorem cut_var {p : Dp} (hp : probD p = true) {n : Nat} (hn : n < (propD p).2.length) : ∃ x e : Nat, (cget (propD p).2 n).var = x ∧ x < p.doms.length ∧ (cget (propD p).2 n).value = e := by
  obtain ⟨x, e, h1, _, h3, _⟩ := (prop_log hp).good.fit n hn
  obtain ⟨⟨j, hj, hjl⟩, hv, _⟩ := right_parts ((prop_log hp).right n hn)
  refine ⟨x, e, h1, ?_, h3⟩
  rw [hj, Int.toNat_natCast, h1] at hv
  obtain ⟨a, ha, he⟩ := List.mem_iff_getElem.1 hv
  have := (ruleD_parts ((probD_parts hp).2.2.2.2 j hjl)).2.2.1 a ha
  rw [show iget (drget p.rules j).vars a = x by unfold iget; rw [List.getElem?_eq_getElem ha]; exact he] at this
  omega
/-- The cells that the region of q.Rules loads. -/
def HeldC (w0 rb o : Nat) (pv k0 k1 k2 k3 : Value) (Z : World) : Prop := Z.cell? ⟨w0, 1, none⟩ = some pv ∧ Z.cell? ⟨rb, o, none⟩ = some k0 ∧ Z.cell? ⟨rb, o + 1, none⟩ = some k1 ∧ Z.cell? ⟨rb, o + 2, none⟩ = some k2 ∧ Z.cell? ⟨rb, o + 3, none⟩ = some k3
theorem HeldC.low {w0 rb o N : Nat} {pv k0 k1 k2 k3 : Value} {V Z : World} (h : HeldC w0 rb o pv k0 k1 k2 k3 V) (hb : Below N V Z) (h0 : w0 < N) (h1 : rb < N) : HeldC w0 rb o pv k0 k1 k2 k3 Z :=
  ⟨(hb.cell (p := ⟨w0, _, none⟩) h0).trans h.1, (hb.cell (p := ⟨rb, _, none⟩) h1).trans h.2.1, (hb.cell (p := ⟨rb, _, none⟩) h1).trans h.2.2.1, (hb.cell (p := ⟨rb, _, none⟩) h1).trans h.2.2.2.1, (hb.cell (p := ⟨rb, _, none⟩) h1).trans h.2.2.2.2⟩
theorem HeldC.grown {w0 rb o L : Nat} {pv k0 k1 k2 k3 : Value} {V Z : World} {b : Option Nat} (h : HeldC w0 rb o pv k0 k1 k2 k3 V) (hg : V.grownBy Z b) (hL : L ≤ V.heap.size) (hb : ∀ q, b = some q → L ≤ q) (h0 : w0 < L) (h1 : rb < L) : HeldC w0 rb o pv k0 k1 k2 k3 Z :=
  h.low ((Below.refl L V).grown hg hL hb) h0 h1
theorem HeldC.store {w0 rb o q j : Nat} {pv k0 k1 k2 k3 u : Value} {V : World} (h : HeldC w0 rb o pv k0 k1 k2 k3 V) (h0 : w0 ≠ q) (h1 : rb ≠ q) : HeldC w0 rb o pv k0 k1 k2 k3 (V.setCell ⟨q, j, none⟩ u) := by
  have key : ∀ (b i : Nat), b ≠ q → (V.setCell ⟨q, j, none⟩ u).cell? ⟨b, i, none⟩ = V.cell? ⟨b, i, none⟩ := fun b i hb => World.cell?_setCell_other _ _ _ _ (fun e => hb (by cases e; rfl))
  exact ⟨(key _ _ h0).trans h.1, (key _ _ h1).trans h.2.1, (key _ _ h1).trans h.2.2.1, (key _ _ h1).trans h.2.2.2.1, (key _ _ h1).trans h.2.2.2.2⟩
def coresAOps : Array Oper := #[
  { dst := some 112, op := Op.fieldAddr 25 (Operand.tmp 10) 1, type := 0, pos := "outright.go:174", after := #[], guard := none },
  { dst := some 113, op := Op.load 23 (Operand.tmp 112), type := 23, pos := "outright.go:174", after := #[{ on := 0, ground := Ground.data }], guard := none },
  { dst := some 114, op := Op.fieldAddr 25 (Operand.tmp 2) 1, type := 0, pos := "outright.go:174", after := #[], guard := none },
  { dst := some 115, op := Op.load 23 (Operand.tmp 114), type := 23, pos := "outright.go:174", after := #[{ on := 2, ground := Ground.data }], guard := none },
  { dst := some 116, op := Op.move (Operand.tmp 12), type := 3, pos := "outright.go:174", after := #[], guard := none },
  { dst := some 117, op := Op.indexAddr 23 (Operand.tmp 115) (Operand.tmp 116), type := 0, pos := "outright.go:174", after := #[{ on := 3, ground := Ground.data }, { on := 4, ground := Ground.data }], guard := none },
  { dst := some 118, op := Op.load 35 (Operand.tmp 117), type := 35, pos := "outright.go:174", after := #[{ on := 5, ground := Ground.data }], guard := none },
  { dst := some 119, op := Op.buildSlice 23 1 #[(0, Operand.tmp 118)], type := 23, pos := "outright.go:174", after := #[{ on := 6, ground := Ground.data }], guard := none },
  { dst := some 120, op := Op.call { callee := Callee.builtin Builtin.append, args := #[Operand.tmp 113, Operand.tmp 119], argTypes := #[23, 23] }, type := 23, pos := "outright.go:174", after := #[{ on := 1, ground := Ground.data }, { on := 7, ground := Ground.data }], guard := none },
  { dst := some 121, op := Op.fieldAddr 25 (Operand.tmp 10) 1, type := 0, pos := "outright.go:174", after := #[{ on := 0, ground := Ground.phase }, { on := 1, ground := Ground.phase }, { on := 2, ground := Ground.phase }, { on := 3, ground := Ground.phase }, { on := 4, ground := Ground.phase }, { on := 5, ground := Ground.phase }, { on := 6, ground := Ground.phase }, { on := 7, ground := Ground.phase }, { on := 8, ground := Ground.phase }], guard := none },
  { dst := none, op := Op.store 23 (Operand.tmp 121) (Operand.tmp 120), type := 0, pos := "outright.go:174", after := #[{ on := 9, ground := Ground.data }, { on := 8, ground := Ground.data }, { on := 8, ground := Ground.chain }, { on := 0, ground := Ground.phase }, { on := 1, ground := Ground.phase }, { on := 2, ground := Ground.phase }, { on := 3, ground := Ground.phase }, { on := 4, ground := Ground.phase }, { on := 5, ground := Ground.phase }, { on := 6, ground := Ground.phase }, { on := 7, ground := Ground.phase }, { on := 8, ground := Ground.phase }], guard := none }]
set_option maxRecDepth 100000 in
set_option maxHeartbeats 8000000 in
theorem domainCores_any (p : Dp) (by_ : Nat) (hby : by_ < 256) (dv rv : Value) (w : World) {B : Nat} (hdv : Us w B dv p.doms) (hrv : DRls w B rv p.rules) (hB0 : 0 < B) (hB : B ≤ w.heap.size) (hu : U64l p.doms) (hT : Tab w) :
    Gives Tryd.prog 4 #[.agg #[dv, rv], .int .u8 (by_ : Nat)] w (.bool true) := by
  unfold Gives
  have HDV := Lib.hid hdv; have HRV := Lib.hid hrv; have HT := Lib.hid hT; have HU := Lib.hid hu
  have hw0 : 0 < w.heap.size := by omega
  obtain ⟨da, dc, rfl⟩ := hdv.slice
  obtain ⟨ra, rc, rfl⟩ := hrv.slice
  clear hdv hrv hT hu
  have K0 := Lib.hid (heap_new0 w (.cells #[.slice da p.doms.length dc, .slice ra p.rules.length rc] 25)); have HB0 := Lib.hid (Below.new1 w (.cells #[.slice da p.doms.length dc, .slice ra p.rules.length rc] 25))
  go_enter Tryd.func4, Tryd.ntmps4
  go_wp2_with fail
  refine (fine_any p _ _ _ (HDV.out.below HB0.out hB) (HRV.out.below HB0.out hB) (by simp; omega) HU.out).mono ?_
  rintro e w1 ⟨rfl, hb1⟩
  have HB1 := Lib.hid (HB0.out.trans (hb1.mono (by simp))); have K1 := Lib.hid (heap_later K0.out hb1 (by simp))
  clear hb1 K0 HB0
  have z1 : w.heap.size < w1.heap.size := (Array.getElem?_eq_some_iff.1 K1.out).1
  cases hfi : smallD p && probD p
  case false =>
    clear hfi
    go_wp2_with fail
    refine (works_any _ (HT.out.below HB1.out hw0) (by have := HB1.out.size; omega)).mono ?_
    rintro e1 w9 ⟨rfl, hb9⟩
    have HF := Lib.hid (HB1.out.trans (hb9.mono HB1.out.size))
    clear hb9
    go_wp2
    go_ret
    exact ⟨rfl, HF.out⟩
  case true =>
    have hpo : probD p = true := by rw [Bool.and_eq_true] at hfi; exact hfi.2
    have HPO := Lib.hid hpo
    have hn1 := (probD_parts hpo).1
    have hn8 := (probD_parts hpo).2.1
    have hr12 := (probD_parts hpo).2.2.1
    clear hfi hpo
    have c0 : w1.cell? ⟨w.heap.size, 0, none⟩ = some (.slice da p.doms.length dc) := by rw [cell_of_row _ _ _ _ _ _ K1.out]; rfl
    have c1 : w1.cell? ⟨w.heap.size, 1, none⟩ = some (.slice ra p.rules.length rc) := by rw [cell_of_row _ _ _ _ _ _ K1.out]; rfl
    go_wp2_with fail
    refine (wide_any p _ _ w1 (HDV.out.below HB1.out hB) (by omega) HU.out ra p.rules.length rc rfl).mono ?_
    rintro e w2 ⟨rfl, hb2⟩
    have HB2 := Lib.hid (HB1.out.trans (hb2.mono HB1.out.size)); have K2 := Lib.hid (heap_later K1.out hb2 z1)
    have z2 : w.heap.size < w2.heap.size := (Array.getElem?_eq_some_iff.1 K2.out).1
    clear hb2 c0 c1
    cases hwi : wideD p
    case true =>
      clear hwi
      go_wp2_with fail
      refine (works_any _ (HT.out.below HB2.out hw0) (by have := HB2.out.size; omega)).mono ?_
      rintro e1 w9 ⟨rfl, hb9⟩
      have HF := Lib.hid (HB2.out.trans (hb9.mono HB2.out.size))
      clear hb9
      go_wp2
      go_ret
      exact ⟨rfl, HF.out⟩
    case false =>
      clear hwi
      have c0 : w2.cell? ⟨w.heap.size, 0, none⟩ = some (.slice da p.doms.length dc) := by rw [cell_of_row _ _ _ _ _ _ K2.out]; rfl
      have c1 : w2.cell? ⟨w.heap.size, 1, none⟩ = some (.slice ra p.rules.length rc) := by rw [cell_of_row _ _ _ _ _ _ K2.out]; rfl
      go_wp2_with fail
      refine (propagate_any p _ _ _ (HDV.out.below HB2.out hB) (HRV.out.below HB2.out hB) hB0 (by omega) (HT.out.below HB2.out hw0)).mono ?_
      rintro e w3 ⟨hb3, hp⟩
      have hgood : Good (propD p) := run_good HPO.out (padD_ok HPO.out)
      obtain ⟨l, hl⟩ : ∃ l, l = (propD p).2 := ⟨_, rfl⟩
      have hfew := hgood.few
      have hfwy := hgood.why
      rw [← hl] at hfew hfwy
      have hl128 : l.length ≤ 128 := by omega
      obtain ⟨fv, cv, rfl, hfo, hco⟩ : ∃ fv cv, e = .returned (.tuple #[fv, cv, .int .i64 0]) ∧ (∃ a n c, fv = .slice a n c) ∧ COwn w3 w2.heap.size cv l := by
        rcases hp with ⟨h, _⟩ | ⟨_, fv, cv, h1, h2, h3⟩
        · rw [HPO.out] at h; cases h
        · obtain ⟨a, c, h⟩ := own_form h2
          exact ⟨fv, cv, h1, ⟨a, _, c, h⟩, by rw [hl]; exact h3⟩
      obtain ⟨fa, fn, fc, rfl⟩ := hfo
      have HCO := Lib.hid (hco.cts (by omega) (fun i hi => by have := hfwy i hi; omega))
      obtain ⟨ya, yc, rfl⟩ : ∃ a c, cv = .slice a l.length c := by obtain ⟨cs, h, _⟩ := hco; exact own_form h
      have HB3 := Lib.hid (HB2.out.trans (hb3.mono HB2.out.size)); have K3 := Lib.hid (heap_later K2.out hb3 z2)
      have z3 : w.heap.size < w3.heap.size := (Array.getElem?_eq_some_iff.1 K3.out).1
      have HL := Lib.hid hl
      clear c0 c1 hb3 hp hco hfwy hfew hgood hl
      go_upto_region 4 with fail
      refine abs_wp (fun Z => Z.heap[w3.heap.size]? = some (.cells #[.slice ya l.length yc] 40 (0, 0)) ∧ Below w3.heap.size w3 Z) ⟨heap_new0 _ _, Below.new1 _ _⟩ ?_
      rintro W ⟨kl, hbl⟩
      have HB4 := Lib.hid (HB3.out.trans (hbl.mono HB3.out.size)); have K4 := Lib.hid (heap_later K3.out hbl z3)
      have KL := Lib.hid kl
      have zl : w3.heap.size < W.heap.size := (Array.getElem?_eq_some_iff.1 kl).1
      have HC4 := Lib.hid ((HCO.out.below hbl (Nat.le_refl _)).mono hbl.size)
      have l0 : W.cell? ⟨w3.heap.size, 0, none⟩ = some (.slice ya l.length yc) := by rw [cell_of_row _ _ _ _ _ _ kl]; rfl
      clear kl hbl HCO
      have hl130 : ¬ (130 : Int) < (l.length : Int) := by omega
      by_cases h0 : l.length = 0
      · rw [h0] at l0 hl130 ⊢
        go_wp2_with fail
        refine (works_any _ (HT.out.below HB4.out hw0) (by have := HB4.out.size; omega)).mono ?_
        rintro e1 w9 ⟨rfl, hb9⟩
        have HF := Lib.hid (HB4.out.trans (hb9.mono HB4.out.size))
        clear hb9
        go_wp2
        go_ret
        exact ⟨rfl, HF.out⟩
      · have h0i : ¬ (l.length : Int) = 0 := by omega
        have h0b : ((l.length : Int) == 0) = false := by rw [beq_eq_false_iff_ne]; omega
        obtain ⟨n, hn⟩ : ∃ n : Nat, n = by_ % l.length := ⟨_, rfl⟩
        have hnl : n < l.length := by rw [hn]; exact Nat.mod_lt _ (by omega)
        have hcv : IntKind.i64.wrap ((by_ : Nat) : Int) = (by_ : Int) := IntWalk.i64_in _ (by omega)
        have hmw : ((by_ : Nat) : Int) % (l.length : Int) = (n : Int) := by rw [hn, Int.natCast_emod]
        have c0 : W.cell? ⟨w.heap.size, 0, none⟩ = some (.slice da p.doms.length dc) := by rw [cell_of_row _ _ _ _ _ _ K4.out]; rfl
        have c1 : W.cell? ⟨w.heap.size, 1, none⟩ = some (.slice ra p.rules.length rc) := by rw [cell_of_row _ _ _ _ _ _ K4.out]; rfl
        have hem : ¬ (l.length : Int) = 0 ∧ (0 : Int) ≤ (by_ : Int) % (l.length : Int) := ⟨h0i, Int.emod_nonneg _ (by omega)⟩
        have hwr : wrap64 ((by_ : Int) % (l.length : Int)) = (by_ : Int) % (l.length : Int) := by rw [hmw]; unfold wrap64; omega
        go_wp2_with fail
        rw [hmw]
        clear hwr hem hcv hmw hn
        go_simp
        have zw : w.heap.size < W.heap.size := by omega
        have hbn := Below.new1 W (.cells #[.int .i64 n] 3)
        have HB5 := Lib.hid (HB4.out.trans (hbn.mono HB4.out.size))
        have hnp : n < (propD p).2.length := by rw [← HL.out]; exact hnl
        have HCR := Lib.hid (core_any p l n (by omega) (.slice da p.doms.length dc) (.slice ra p.rules.length rc) (.slice ya l.length yc) (W.alloc (.cells #[.int .i64 n] 3)) (B := W.heap.size) ((HDV.out.below HB5.out hB).mono (by omega)) ((HRV.out.below HB5.out hB).mono (by omega)) (HC4.out.below hbn (Nat.le_refl _)) (by omega) (by simp) (HT.out.below HB5.out hw0))
        have KN := Lib.hid (heap_new0 W (.cells #[.int .i64 n] 3))
        have KL5 := Lib.hid (heap_later KL.out hbn zl)
        have K5 := Lib.hid (heap_later K4.out hbn zw)
        have HC5 := Lib.hid (HC4.out.below hbn (Nat.le_refl _))
        clear hbn h0b h0i hl130
        go_wp2_with fail
        refine HCR.out.mono ?_
        rintro e w6 ⟨cv, rfl, hco, hb6⟩
        rw [show coreE p l n = 0 by rw [HL.out]; exact core_err HPO.out hnp]
        rw [show coreL p l n = coreD p l n by rw [HL.out]; exact core_lst HPO.out hnp] at hco
        obtain ⟨ks, hks⟩ : ∃ ks, ks = coreD p l n := ⟨_, rfl⟩
        rw [← hks] at hco
        have hkf : ks.length ≤ p.rules.length := by rw [hks]; exact core_few p l n
        obtain ⟨x, ev, hx1, hxn, hx2⟩ := cut_var HPO.out hnp
        rw [← HL.out] at hx1 hx2
        have HKS := Lib.hid hks
        have HB6 := Lib.hid (HB5.out.trans (hb6.mono HB5.out.size))
        have zs5 : (W.alloc (.cells #[.int .i64 n] 3)).heap.size = W.heap.size + 1 := by simp
        have KN6 := Lib.hid (heap_later KN.out hb6 (by omega))
        have KL6 := Lib.hid (heap_later KL5.out hb6 (by omega))
        have K6 := Lib.hid (heap_later K5.out hb6 (by omega))
        have HC6 := Lib.hid ((HC5.out.below hb6 (by omega)).mono (show W.heap.size ≤ w6.heap.size by have := hb6.size; omega))
        have HKI := Lib.hid (ownsRow_ints hco (by omega) rfl)
        obtain ⟨ka, kc, rfl⟩ := own_form hco
        obtain ⟨cf, hrow, hcf⟩ := HC6.out
        obtain ⟨_, a', c', hae, _, _, hrw⟩ := hrow
        cases hae
        obtain ⟨cb, co, rfl, hcb, hcc⟩ := hrw (by omega)
        obtain ⟨e0, e1, e2, e3⟩ := hcf n hnl
        have q0 : w6.cell? ⟨cb, co + n * 4, none⟩ = some (.int .i64 (x : Int)) := by rw [hcc _ (by omega), e0, hx1]
        have l0 : w6.cell? ⟨w3.heap.size, 0, none⟩ = some (.slice (some ⟨cb, co, none⟩) l.length yc) := by rw [cell_of_row _ _ _ _ _ _ KL6.out]; rfl
        have n0 : w6.cell? ⟨W.heap.size, 0, none⟩ = some (.int .i64 n) := by rw [cell_of_row _ _ _ _ _ _ KN6.out]; rfl
        have HX1 := Lib.hid hx1; have HX2 := Lib.hid hx2
        have hkfi : ¬ (p.rules.length : Int) < (ks.length : Int) := by omega
        have hxd : ¬ (p.doms.length : Int) ≤ (x : Int) := by omega
        have hxz : ¬ (x : Int) < 0 := by omega
        have hkfn : ¬ p.rules.length < ks.length := by omega
        have hxdn : ¬ p.doms.length ≤ x := by omega
        have hkg : decide ((p.rules.length : Int) < (ks.length : Int)) = false := decide_eq_false hkfi
        have hkgn : decide (p.rules.length < ks.length) = false := decide_eq_false hkfn
        have hxg : decide ((p.doms.length : Int) ≤ (x : Int)) = false := decide_eq_false hxd
        have hxgn : decide (p.doms.length ≤ x) = false := decide_eq_false hxdn
        have hxzd : decide ((x : Int) < 0) = false := decide_eq_false hxz
        have hxz2 : (0 : Int) ≤ (x : Int) := by omega
        have zcb : cb < w6.heap.size := by have := HB6.out.size; omega
        have zw6 : w.heap.size < w6.heap.size := (Array.getElem?_eq_some_iff.1 K6.out).1
        have zl6 : w3.heap.size < w6.heap.size := (Array.getElem?_eq_some_iff.1 KL6.out).1
        have zn6 : W.heap.size < w6.heap.size := (Array.getElem?_eq_some_iff.1 KN6.out).1
        clear hco hb6 hks hrw hcf hcc e0 e1 e2 e3 hx1 hx2 KN KL5 K5 HC5 HCR c0 c1
        have c0 : w6.cell? ⟨w.heap.size, 0, none⟩ = some (.slice da p.doms.length dc) := by rw [cell_of_row _ _ _ _ _ _ K6.out]; rfl
        have c1 : w6.cell? ⟨w.heap.size, 1, none⟩ = some (.slice ra p.rules.length rc) := by rw [cell_of_row _ _ _ _ _ _ K6.out]; rfl
        go_wp2_with fail
        refine wp_region_qb (by kernel_rfl) (by kernel_rfl) ?_
        repeat go_big_quiet_step (fail)
        refine wpQuiet_nil ?_
        intro w7 hb7
        have HB7 := Lib.hid (HB6.out.trans (hb7.mono HB6.out.size))
        have KN7 := Lib.hid (heap_later KN6.out hb7 zn6)
        have KL7 := Lib.hid (heap_later KL6.out hb7 zl6)
        have K7 := Lib.hid (heap_later K6.out hb7 zw6)
        have HC7 := Lib.hid (HC6.out.below hb7 (by omega))
        have HKI7 := Lib.hid ((HKI.out.below hb7 (Nat.le_refl _)).mono hb7.size)
        have z67 := hb7.size
        have zw7 : w.heap.size < w7.heap.size := by omega
        clear hb7 q0 l0 n0 c0 c1 KN6 KL6 K6 HC6 HKI hkfi hxd hxz hkfn hxdn hkg hkgn hxg hxgn zcb hxzd hxz2
        have c0 : w7.cell? ⟨w.heap.size, 0, none⟩ = some (.slice da p.doms.length dc) := by rw [cell_of_row _ _ _ _ _ _ K7.out]; rfl
        have c1 : w7.cell? ⟨w.heap.size, 1, none⟩ = some (.slice ra p.rules.length rc) := by rw [cell_of_row _ _ _ _ _ _ K7.out]; rfl
        go_upto_region 13 with fail
        refine abs_wp (fun Z => Z.heap[w7.heap.size]? = some (.cells #[.slice da p.doms.length dc, .slice none 0 0] 25 (0, 0)) ∧ Below w7.heap.size w7 Z) ⟨heap_new0 _ _, Below.new1 _ _⟩ ?_
        clear c0 c1
        rintro W8 ⟨kq, hbq⟩
        have KQ := Lib.hid kq
        have HB8 := Lib.hid (HB7.out.trans (hbq.mono HB7.out.size))
        have HB78 := Lib.hid hbq
        have zq : w7.heap.size < W8.heap.size := (Array.getElem?_eq_some_iff.1 kq).1
        have HZ8 := Lib.hid zq
        clear kq hbq
        obtain ⟨kn, hkn⟩ : ∃ kn : List Nat, kn = ks.map Int.toNat := ⟨_, rfl⟩
        have hknl : kn.length = ks.length := by rw [hkn, List.length_map]
        have hkv : ∀ i, i < ks.length → iget ks i = (nget kn i : Int) ∧ nget kn i < p.rules.length := fun i hi => by
          have hm : ks[i] ∈ coreD p l n := by rw [← HKS.out]; exact List.getElem_mem hi
          obtain ⟨m, hm1, hm2, _⟩ := core_rules.1 hm
          have e1 : iget ks i = m := by unfold iget; rw [List.getElem?_eq_getElem hi]; exact hm1
          have e2 : nget kn i = m := by
            unfold nget; rw [hkn, List.getElem?_map, List.getElem?_eq_getElem hi]
            show (ks[i]).toNat = m
            rw [hm1, Int.toNat_natCast]
          exact ⟨by rw [e1, e2], by rw [e2]; exact hm2⟩
        have hup : ∀ i, i + 1 < ks.length → nget kn i < nget kn (i + 1) := fun i hi => by
          have hp := core_up p l n
          rw [← HKS.out] at hp
          have := List.pairwise_iff_getElem.1 hp i (i + 1) (by omega) hi (by omega)
          have e1 := (hkv i (by omega)).1
          have e2 := (hkv (i + 1) hi).1
          unfold iget at e1 e2
          rw [List.getElem?_eq_getElem (by omega)] at e1
          rw [List.getElem?_eq_getElem hi] at e2
          have e1 : ks[i] = (nget kn i : Int) := e1
          have e2 : ks[i + 1] = (nget kn (i + 1) : Int) := e2
          omega
        have HKV := Lib.hid hkv; have HUP := Lib.hid hup; have HKN := Lib.hid hkn
        clear hkv hup hkn
        obtain ⟨cR, hcRow, hcR⟩ := HRV.out
        have HCROW := Lib.hid hcRow; have HCRR := Lib.hid hcR
        clear hcRow hcR
        go_wp2_with fail
        go_loopw [85] (fun iv wr => ∃ (i : Nat) (v : Value), i ≤ ks.length ∧ iv = .int .i64 i ∧ wr.heap[w7.heap.size]? = some (.cells #[.slice da p.doms.length dc, v] 25 (0, 0)) ∧ W8.heap.size ≤ wr.heap.size ∧ wr.ownsRow W8.heap.size 35 4 v i (rCells cR (kn.take i)) ∧ Below w7.heap.size w7 wr) (fun iv _ => ks.length - (intOf iv).toNat)
        case atStart => exact ⟨0, .slice none 0 0, Nat.zero_le _, rfl, KQ.out, Nat.le_refl _, World.ownsRow_nil _ _ _ _, HB78.out⟩
        case round =>
          clear KQ HB8 HB78
          obtain ⟨i, v, hi, rfl, kq, hsz, how, hb⟩ := hrel
          have KQ := Lib.hid kq; have HOW := Lib.hid how; have HB := Lib.hid hb
          have HBWr := Lib.hid (HB7.out.trans (hb.mono HB7.out.size))
          have KP := Lib.hid (heap_later K7.out hb zw7)
          have HKIr := HKI7.out.below hb (Nat.le_refl _)
          by_cases hlt : i < ks.length
          · obtain ⟨hki, hkl⟩ := HKV.out i hlt
            obtain ⟨k, hk⟩ : ∃ k, k = nget kn i := ⟨_, rfl⟩
            rw [← hk] at hki hkl
            obtain ⟨_, a', c', hae, _, _, hrow⟩ := HKIr
            cases hae
            obtain ⟨kb, ko, rfl, hkb, hkc⟩ := hrow (by omega)
            have k0 : wr.cell? ⟨kb, ko + i, none⟩ = some (.int .i64 (k : Int)) := by rw [← hki]; exact hkc i (by omega)
            have zkb : kb < wr.heap.size := by have := hb.size; omega
            have HK := Lib.hid hk
            have zwr : w.heap.size < wr.heap.size := by have := hb.size; omega
            have hkr : ¬ (p.rules.length : Int) ≤ (k : Int) := by omega
            have hkrn : ¬ p.rules.length ≤ k := by omega
            have c0 : wr.cell? ⟨w.heap.size, 0, none⟩ = some (.slice da p.doms.length dc) := by rw [cell_of_row _ _ _ _ _ _ KP.out]; rfl
            have c1 : wr.cell? ⟨w.heap.size, 1, none⟩ = some (.slice ra p.rules.length rc) := by rw [cell_of_row _ _ _ _ _ _ KP.out]; rfl
            clear kq how hb hki hk
            obtain ⟨_, a', c', hae, _, _, hrow2⟩ := HCROW.out.below HBWr.out hB
            cases hae
            obtain ⟨rb, ro, rfl, hrb, hcell⟩ := hrow2 (by omega)
            obtain ⟨hc0, hcv, hcn, hc3⟩ := HCRR.out k hkl
            obtain ⟨va, vc, hc1⟩ := hcv.slice
            obtain ⟨na, nc, hc2⟩ := hcn.slice
            have r0 : wr.cell? ⟨rb, ro + k * 4, none⟩ = some (.int .i64 (drget p.rules k).kind) := by rw [hcell _ (by omega), hc0]
            have r1 : wr.cell? ⟨rb, ro + k * 4 + 1, none⟩ = some (.slice va (drget p.rules k).vars.length vc) := by rw [← hc1]; exact hcell (k * 4 + 1) (by omega)
            have r2 : wr.cell? ⟨rb, ro + k * 4 + 2, none⟩ = some (.slice na (drget p.rules k).nums.length nc) := by rw [← hc2]; exact hcell (k * 4 + 2) (by omega)
            have r3 : wr.cell? ⟨rb, ro + k * 4 + 3, none⟩ = some (.int .i64 (drget p.rules k).n) := by rw [← hc3]; exact hcell (k * 4 + 3) (by omega)
            have HC : Hid ([cR (k * 4), cR (k * 4 + 1), cR (k * 4 + 2), cR (k * 4 + 3)] = [.int .i64 (drget p.rules k).kind, .slice va (drget p.rules k).vars.length vc, .slice na (drget p.rules k).nums.length nc, .int .i64 (drget p.rules k).n]) := Lib.hid (by rw [hc0, hc1, hc2, hc3])
            have zr : rb < wr.heap.size := by have := HBWr.out.size; omega
            obtain ⟨r, hr⟩ : ∃ r, r = drget p.rules k := ⟨_, rfl⟩
            rw [← hr] at r0 r1 r2 r3 HC
            obtain ⟨fa, fc, rfl⟩ := own_form HOW.out
            have t0 : wr.cell? ⟨w7.heap.size, 1, none⟩ = some (.slice fa i fc) := by rw [cell_of_row _ _ _ _ _ _ KQ.out]; rfl
            have zqr : w7.heap.size < wr.heap.size := (Array.getElem?_eq_some_iff.1 KQ.out).1
            clear hrow2 hcell hc0 hc1 hc2 hc3 hcv hcn hr
            by_cases hi0 : 0 < i
            · obtain ⟨hkj, _⟩ := HKV.out (i - 1) (by omega)
              have hu := HUP.out (i - 1) (by omega)
              rw [show i - 1 + 1 = i by omega, ← HK.out] at hu
              have k1 : wr.cell? ⟨kb, ko + (i - 1), none⟩ = some (.int .i64 (nget kn (i - 1) : Nat)) := by rw [← hkj]; exact hkc (i - 1) (by omega)
              have hi0i : (0 : Int) < (i : Int) := by omega
              have hku : ¬ (k : Int) ≤ (nget kn (i - 1) : Nat) := by omega
              have hkun : ¬ k ≤ nget kn (i - 1) := by omega
              have hil : (i : Int) - 1 < (ks.length : Int) := by omega
              have hig : (0 : Int) ≤ (i : Int) - 1 := by omega
              have hin : ((i : Int) - 1).toNat = i - 1 := by omega
              clear hkj hu hkc hrow
              go_wp2_with fail
              clear k1 hi0i hku hkun hil hig hin hkr hkrn k0
              have hh0 : HeldC w.heap.size rb (ro + k * 4) (.slice (some ⟨rb, ro, none⟩) p.rules.length rc) (.int .i64 r.kind) (.slice va r.vars.length vc) (.slice na r.nums.length nc) (.int .i64 r.n) wr := ⟨c1, r0, r1, r2, r3⟩
              have HH0 := Lib.hid hh0
              have zz := And.intro zwr zr
              have HZZ := Lib.hid zz
              clear hh0 r0 r1 r2 r3 c0 c1 t0 zz
              refine wp_region_held_drew (S := HeldC w.heap.size rb (ro + k * 4) (.slice (some ⟨rb, ro, none⟩) p.rules.length rc) (.int .i64 r.kind) (.slice va r.vars.length vc) (.slice na r.nums.length nc) (.int .i64 r.n)) (by kernel_rfl) (HH0.out.low (Below.drewn (Below.refl wr.heap.size wr)) zwr zr) (fun hHeld => ?_)
              change wpAnyH _ _ coresAOps _ _ _ _ _ _
              refine abs_anyHS (fun Z => Below wr.heap.size wr Z) (Below.drewn (Below.refl wr.heap.size wr)) hHeld ?_
              clear hHeld
              rintro V hbV hHeld
              have kqV := heap_later KQ.out hbV zqr
              have HKQ := Lib.hid kqV
              have HOWV := Lib.hid (own_ck HOW.out (CK.below hbV))
              have KQV := Lib.hid kqV
              have HBV := Lib.hid (HB.out.trans (hbV.mono HB.out.size))
              have HZV : Hid (w.heap.size < V.heap.size ∧ rb < V.heap.size ∧ W8.heap.size ≤ V.heap.size) := Lib.hid ⟨by have := hbV.size; omega, by have := hbV.size; omega, by have := hbV.size; omega⟩
              clear hbV kqV HKQ
              refine wpAnyH_take (i := 0) (oi := { dst := some 112, op := Op.fieldAddr 25 (Operand.tmp 10) 1, type := 0, pos := "outright.go:174", after := #[], guard := none }) (v := ?_) rfl (by kernel_rfl) (by kernel_rfl) (by kernel_rfl) (fun _ _ _ h => h) (Or.inl ⟨by kernel_rfl, ?_⟩) hHeld ?_
              rotate_left
              · intro w hSw
                obtain ⟨hs0, hs1, hs2, hs3, hs4⟩ := hSw
                go_simp
                try with_reducible rfl
              try simp only [Act.put, List.setIfInBounds_toArray, List.set_cons_zero, List.set_cons_succ]
              refine wpAnyH_take (i := 2) (oi := { dst := some 114, op := Op.fieldAddr 25 (Operand.tmp 2) 1, type := 0, pos := "outright.go:174", after := #[], guard := none }) (v := ?_) rfl (by kernel_rfl) (by kernel_rfl) (by kernel_rfl) (fun _ _ _ h => h) (Or.inl ⟨by kernel_rfl, ?_⟩) hHeld ?_
              rotate_left
              · intro w hSw
                obtain ⟨hs0, hs1, hs2, hs3, hs4⟩ := hSw
                go_simp
                try with_reducible rfl
              try simp only [Act.put, List.setIfInBounds_toArray, List.set_cons_zero, List.set_cons_succ]
              refine wpAnyH_take (i := 3) (oi := { dst := some 115, op := Op.load 23 (Operand.tmp 114), type := 23, pos := "outright.go:174", after := #[{ on := 2, ground := Ground.data }], guard := none }) (v := ?_) rfl (by kernel_rfl) (by kernel_rfl) (by kernel_rfl) (fun _ _ _ h => h) (Or.inl ⟨by kernel_rfl, ?_⟩) hHeld ?_
              rotate_left
              · intro w hSw
                obtain ⟨hs0, hs1, hs2, hs3, hs4⟩ := hSw
                go_simp
                try with_reducible rfl
              try simp only [Act.put, List.setIfInBounds_toArray, List.set_cons_zero, List.set_cons_succ]
              refine wpAnyH_take (i := 4) (oi := { dst := some 116, op := Op.move (Operand.tmp 12), type := 3, pos := "outright.go:174", after := #[], guard := none }) (v := ?_) rfl (by kernel_rfl) (by kernel_rfl) (by kernel_rfl) (fun _ _ _ h => h) (Or.inl ⟨by kernel_rfl, ?_⟩) hHeld ?_
              rotate_left
              · intro w hSw
                obtain ⟨hs0, hs1, hs2, hs3, hs4⟩ := hSw
                go_simp
                try with_reducible rfl
              try simp only [Act.put, List.setIfInBounds_toArray, List.set_cons_zero, List.set_cons_succ]
              refine wpAnyH_take (i := 5) (oi := { dst := some 117, op := Op.indexAddr 23 (Operand.tmp 115) (Operand.tmp 116), type := 0, pos := "outright.go:174", after := #[{ on := 3, ground := Ground.data }, { on := 4, ground := Ground.data }], guard := none }) (v := ?_) rfl (by kernel_rfl) (by kernel_rfl) (by kernel_rfl) (fun _ _ _ h => h) (Or.inl ⟨by kernel_rfl, ?_⟩) hHeld ?_
              rotate_left
              · intro w hSw
                obtain ⟨hs0, hs1, hs2, hs3, hs4⟩ := hSw
                go_simp
                try with_reducible rfl
              try simp only [Act.put, List.setIfInBounds_toArray, List.set_cons_zero, List.set_cons_succ]
              refine wpAnyH_take (i := 6) (oi := { dst := some 118, op := Op.load 35 (Operand.tmp 117), type := 35, pos := "outright.go:174", after := #[{ on := 5, ground := Ground.data }], guard := none }) (v := ?_) rfl (by kernel_rfl) (by kernel_rfl) (by kernel_rfl) (fun _ _ _ h => h) (Or.inl ⟨by kernel_rfl, ?_⟩) hHeld ?_
              rotate_left
              · intro w hSw
                obtain ⟨hs0, hs1, hs2, hs3, hs4⟩ := hSw
                go_simp
                try with_reducible rfl
              try simp only [Act.put, List.setIfInBounds_toArray, List.set_cons_zero, List.set_cons_succ]
              refine wpAnyH_ready (rs := [1, 7]) (by kernel_rfl) (by simp) ?_
              refine AllReadyH.cons (o := { dst := some 113, op := Op.load 23 (Operand.tmp 112), type := 23, pos := "outright.go:174", after := #[{ on := 0, ground := Ground.data }], guard := none }) rfl (fun K hK => ?_) (AllReadyH.cons (o := { dst := some 119, op := Op.buildSlice 23 1 #[(0, Operand.tmp 118)], type := 23, pos := "outright.go:174", after := #[{ on := 6, ground := Ground.data }], guard := none }) rfl (fun K hK => ?_) AllReadyH.nil)
              · have t0 : V.cell? ⟨w7.heap.size, 1, none⟩ = some (.slice fa i fc) := by rw [cell_of_row _ _ _ _ _ _ KQV.out]; rfl
                go_simp
                refine hK.out _ _ (hHeld) (fun hHeld => ?_)
                clear hK K
                try simp only [Act.put, List.setIfInBounds_toArray, List.set_cons_zero, List.set_cons_succ]
                clear t0
                refine wpAnyH_ready (rs := [7]) (by kernel_rfl) (by simp) ?_
                refine AllReadyH.cons (o := { dst := some 119, op := Op.buildSlice 23 1 #[(0, Operand.tmp 118)], type := 23, pos := "outright.go:174", after := #[{ on := 6, ground := Ground.data }], guard := none }) rfl (fun K hK => ?_) AllReadyH.nil
                go_simp
                have hnw := Below.new1 V (.cells #[.int .i64 r.kind, .slice va r.vars.length vc, .slice na r.nums.length nc, .int .i64 r.n] 35)
                have hv9 := heap_new0 V (.cells #[.int .i64 r.kind, .slice va r.vars.length vc, .slice na r.nums.length nc, .int .i64 r.n] 35)
                refine hK.out _ _ (hHeld.low hnw HZV.out.1 HZV.out.2.1) (fun hHeld => ?_)
                clear hK K
                try simp only [Act.put, List.setIfInBounds_toArray, List.set_cons_zero, List.set_cons_succ]
                obtain ⟨Y, hY⟩ : ∃ Y, Y = V.alloc (.cells #[.int .i64 r.kind, .slice va r.vars.length vc, .slice na r.nums.length nc, .int .i64 r.n] 35) := ⟨_, rfl⟩
                rw [← hY] at hnw hv9 hHeld ⊢
                have HNW := Lib.hid hnw; have HV9 := Lib.hid hv9
                clear hY hnw hv9
                refine wpAnyH_ready (rs := [8]) (by kernel_rfl) (by simp) ?_
                refine AllReadyH.cons (o := { dst := some 120, op := Op.call { callee := Callee.builtin Builtin.append, args := #[Operand.tmp 113, Operand.tmp 119], argTypes := #[23, 23] }, type := 23, pos := "outright.go:174", after := #[{ on := 1, ground := Ground.data }, { on := 7, ground := Ground.data }], guard := none }) rfl (fun K hK => ?_) AllReadyH.nil
                rw [if_pos (by rfl)]
                have how9 := own_ck HOWV.out (CK.below HNW.out)
                have kq9 := heap_later KQV.out HNW.out (Array.getElem?_eq_some_iff.1 KQV.out).1
                have hbY := HBV.out.trans (HNW.out.mono HBV.out.size)
                have hsY := HNW.out.size
                obtain ⟨i0, hin, hz0, hz1, hz2⟩ := info_parts infoR
                refine wp_append_own Y _ _ 23 rfl W8.heap.size 35 i0 _ 4 64 Tryd.underlying23 hin hz0 hz1 hz2 rfl (by decide) (.slice fa i fc) i (rCells cR (kn.take i)) rfl how9 ⟨V.heap.size, 0, none⟩ 1 1 [.int .i64 r.kind, .slice va r.vars.length vc, .slice na r.nums.length nc, .int .i64 r.n] rfl rfl ?_ ?_ (by unfold maxLen; omega) (by omega) (by have := HZV.out.2.2; omega) ?_
                · intro j u hj
                  rw [Addr.add_lit, Nat.zero_add, cell_of_row _ _ _ _ _ _ HV9.out, List.getElem?_toArray]; exact hj
                · intro u hu
                  simp only [List.mem_cons, List.not_mem_nil, or_false] at hu
                  rcases hu with rfl | rfl | rfl | rfl <;> rfl
                intro v' X2 hown2 hgrow2 _
                obtain ⟨ga, gc, rfl⟩ := own_form hown2
                have kq2 := (hgrow2.block _ (Array.getElem?_eq_some_iff.1 kq9).1 (fun hh => own_apart how9 kq9 (by decide) _ hh.symm rfl)).trans kq9
                have hgb : ∀ q, Value.ownBlock (.slice fa i fc) = some q → W8.heap.size ≤ q := fun q hq => (how9.lt q hq).1
                have hb2 := hbY.grown hgrow2 (by have := HZV.out.2.2; have := HZ8.out; omega) (fun q hq => by have := hgb q hq; have := HZ8.out; omega)
                have hlow2 := hHeld.grown hgrow2 (by have := HZV.out.2.2; omega) hgb (by have := HZ8.out; omega) (by have := HZ8.out; omega)
                have hx2 := hgrow2.size
                have HB2' := Lib.hid hb2; have KQ2 := Lib.hid kq2; have HO2 := Lib.hid hown2; have HX2 := Lib.hid (Nat.le_trans hsY hx2)
                clear how9 kq9 hbY hown2 hgrow2 hgb hb2 kq2 hx2 hsY hHeld
                refine hK.out _ _ (hlow2) (fun hHeld => ?_)
                clear hK K
                try simp only [Act.put, List.setIfInBounds_toArray, List.set_cons_zero, List.set_cons_succ]
                clear hlow2
                refine wpAnyH_ready (rs := [9]) (by kernel_rfl) (by simp) ?_
                refine AllReadyH.cons (o := { dst := some 121, op := Op.fieldAddr 25 (Operand.tmp 10) 1, type := 0, pos := "outright.go:174", after := #[{ on := 0, ground := Ground.phase }, { on := 1, ground := Ground.phase }, { on := 2, ground := Ground.phase }, { on := 3, ground := Ground.phase }, { on := 4, ground := Ground.phase }, { on := 5, ground := Ground.phase }, { on := 6, ground := Ground.phase }, { on := 7, ground := Ground.phase }, { on := 8, ground := Ground.phase }], guard := none }) rfl (fun K hK => ?_) AllReadyH.nil
                go_simp
                refine hK.out _ _ (hHeld) (fun hHeld => ?_)
                clear hK K
                try simp only [Act.put, List.setIfInBounds_toArray, List.set_cons_zero, List.set_cons_succ]
                refine wpAnyH_ready (rs := [10]) (by kernel_rfl) (by simp) ?_
                refine AllReadyH.cons (o := { dst := none, op := Op.store 23 (Operand.tmp 121) (Operand.tmp 120), type := 0, pos := "outright.go:174", after := #[{ on := 9, ground := Ground.data }, { on := 8, ground := Ground.data }, { on := 8, ground := Ground.chain }, { on := 0, ground := Ground.phase }, { on := 1, ground := Ground.phase }, { on := 2, ground := Ground.phase }, { on := 3, ground := Ground.phase }, { on := 4, ground := Ground.phase }, { on := 5, ground := Ground.phase }, { on := 6, ground := Ground.phase }, { on := 7, ground := Ground.phase }, { on := 8, ground := Ground.phase }], guard := none }) rfl (fun K hK => ?_) AllReadyH.nil
                have t1 : X2.cell? ⟨w7.heap.size, 1, none⟩ = some (.slice fa i fc) := by rw [cell_of_row _ _ _ _ _ _ KQ2.out]; rfl
                have t1f : X2.frozen? ⟨w7.heap.size, 1, none⟩ = false := by simp [World.frozen?, KQ2.out]
                go_simp
                have KQ6 := Lib.hid (heap_setCell_same X2 w7.heap.size 1 _ _ (.slice ga (i + 1) gc) KQ2.out)
                have HO6 := Lib.hid (own_low (w' := X2.setCell ⟨w7.heap.size, 1, none⟩ (.slice ga (i + 1) gc)) HO2.out (fun k c t f hk e => (Below.heap_setCell _ _ _ _ (show k ≠ w7.heap.size by have := HZ8.out; omega)).trans e))
                have HB6 := Lib.hid (HB2'.out.setCell (p := ⟨w7.heap.size, 1, none⟩) (Nat.le_refl _) (.slice ga (i + 1) gc))
                have hz10 : W8.heap.size ≤ X2.heap.size := by have := HX2.out; have := HZV.out.2.2; omega
                refine hK.out _ _ (hHeld.store (by omega) (by omega)) (fun hHeld => ?_)
                clear hK K
                try simp only [Act.put, List.setIfInBounds_toArray, List.set_cons_zero, List.set_cons_succ]
                refine wpAnyH_done (by kernel_rfl) ?_ _
                have HCE : Hid (rCells cR (kn.take i) ++ [.int .i64 r.kind, .slice va r.vars.length vc, .slice na r.nums.length nc, .int .i64 r.n] = rCells cR (kn.take (i + 1))) := Lib.hid (by rw [← HC.out, rCells_snoc (by omega), ← HK.out])
                clear hHeld t1 t1f KQ2 HO2 HB2'
                go_wp2
                go_roundw
                case rel => exact ⟨i + 1, .slice ga (i + 1) gc, by omega, by go_num, KQ6.out, (by show W8.heap.size ≤ (X2.setCell _ _).heap.size; simpa [World.setCell] using hz10), by rw [← HCE.out]; exact HO6.out, HB6.out⟩
                case measure => simp [intOf]; omega
              · go_simp
                have hnw := Below.new1 V (.cells #[.int .i64 r.kind, .slice va r.vars.length vc, .slice na r.nums.length nc, .int .i64 r.n] 35)
                have hv9 := heap_new0 V (.cells #[.int .i64 r.kind, .slice va r.vars.length vc, .slice na r.nums.length nc, .int .i64 r.n] 35)
                refine hK.out _ _ (hHeld.low hnw HZV.out.1 HZV.out.2.1) (fun hHeld => ?_)
                clear hK K
                try simp only [Act.put, List.setIfInBounds_toArray, List.set_cons_zero, List.set_cons_succ]
                obtain ⟨Y, hY⟩ : ∃ Y, Y = V.alloc (.cells #[.int .i64 r.kind, .slice va r.vars.length vc, .slice na r.nums.length nc, .int .i64 r.n] 35) := ⟨_, rfl⟩
                rw [← hY] at hnw hv9 hHeld ⊢
                have HNW := Lib.hid hnw; have HV9 := Lib.hid hv9
                clear hY hnw hv9
                have kqY := heap_later KQV.out HNW.out (Array.getElem?_eq_some_iff.1 KQV.out).1
                have t0 : Y.cell? ⟨w7.heap.size, 1, none⟩ = some (.slice fa i fc) := by rw [cell_of_row _ _ _ _ _ _ kqY]; rfl
                clear kqY
                refine wpAnyH_ready (rs := [1]) (by kernel_rfl) (by simp) ?_
                refine AllReadyH.cons (o := { dst := some 113, op := Op.load 23 (Operand.tmp 112), type := 23, pos := "outright.go:174", after := #[{ on := 0, ground := Ground.data }], guard := none }) rfl (fun K hK => ?_) AllReadyH.nil
                go_simp
                refine hK.out _ _ (hHeld) (fun hHeld => ?_)
                clear hK K
                try simp only [Act.put, List.setIfInBounds_toArray, List.set_cons_zero, List.set_cons_succ]
                clear t0
                refine wpAnyH_ready (rs := [8]) (by kernel_rfl) (by simp) ?_
                refine AllReadyH.cons (o := { dst := some 120, op := Op.call { callee := Callee.builtin Builtin.append, args := #[Operand.tmp 113, Operand.tmp 119], argTypes := #[23, 23] }, type := 23, pos := "outright.go:174", after := #[{ on := 1, ground := Ground.data }, { on := 7, ground := Ground.data }], guard := none }) rfl (fun K hK => ?_) AllReadyH.nil
                rw [if_pos (by rfl)]
                have how9 := own_ck HOWV.out (CK.below HNW.out)
                have kq9 := heap_later KQV.out HNW.out (Array.getElem?_eq_some_iff.1 KQV.out).1
                have hbY := HBV.out.trans (HNW.out.mono HBV.out.size)
                have hsY := HNW.out.size
                obtain ⟨i0, hin, hz0, hz1, hz2⟩ := info_parts infoR
                refine wp_append_own Y _ _ 23 rfl W8.heap.size 35 i0 _ 4 64 Tryd.underlying23 hin hz0 hz1 hz2 rfl (by decide) (.slice fa i fc) i (rCells cR (kn.take i)) rfl how9 ⟨V.heap.size, 0, none⟩ 1 1 [.int .i64 r.kind, .slice va r.vars.length vc, .slice na r.nums.length nc, .int .i64 r.n] rfl rfl ?_ ?_ (by unfold maxLen; omega) (by omega) (by have := HZV.out.2.2; omega) ?_
                · intro j u hj
                  rw [Addr.add_lit, Nat.zero_add, cell_of_row _ _ _ _ _ _ HV9.out, List.getElem?_toArray]; exact hj
                · intro u hu
                  simp only [List.mem_cons, List.not_mem_nil, or_false] at hu
                  rcases hu with rfl | rfl | rfl | rfl <;> rfl
                intro v' X2 hown2 hgrow2 _
                obtain ⟨ga, gc, rfl⟩ := own_form hown2
                have kq2 := (hgrow2.block _ (Array.getElem?_eq_some_iff.1 kq9).1 (fun hh => own_apart how9 kq9 (by decide) _ hh.symm rfl)).trans kq9
                have hgb : ∀ q, Value.ownBlock (.slice fa i fc) = some q → W8.heap.size ≤ q := fun q hq => (how9.lt q hq).1
                have hb2 := hbY.grown hgrow2 (by have := HZV.out.2.2; have := HZ8.out; omega) (fun q hq => by have := hgb q hq; have := HZ8.out; omega)
                have hlow2 := hHeld.grown hgrow2 (by have := HZV.out.2.2; omega) hgb (by have := HZ8.out; omega) (by have := HZ8.out; omega)
                have hx2 := hgrow2.size
                have HB2' := Lib.hid hb2; have KQ2 := Lib.hid kq2; have HO2 := Lib.hid hown2; have HX2 := Lib.hid (Nat.le_trans hsY hx2)
                clear how9 kq9 hbY hown2 hgrow2 hgb hb2 kq2 hx2 hsY hHeld
                refine hK.out _ _ (hlow2) (fun hHeld => ?_)
                clear hK K
                try simp only [Act.put, List.setIfInBounds_toArray, List.set_cons_zero, List.set_cons_succ]
                clear hlow2
                refine wpAnyH_ready (rs := [9]) (by kernel_rfl) (by simp) ?_
                refine AllReadyH.cons (o := { dst := some 121, op := Op.fieldAddr 25 (Operand.tmp 10) 1, type := 0, pos := "outright.go:174", after := #[{ on := 0, ground := Ground.phase }, { on := 1, ground := Ground.phase }, { on := 2, ground := Ground.phase }, { on := 3, ground := Ground.phase }, { on := 4, ground := Ground.phase }, { on := 5, ground := Ground.phase }, { on := 6, ground := Ground.phase }, { on := 7, ground := Ground.phase }, { on := 8, ground := Ground.phase }], guard := none }) rfl (fun K hK => ?_) AllReadyH.nil
                go_simp
                refine hK.out _ _ (hHeld) (fun hHeld => ?_)
                clear hK K
                try simp only [Act.put, List.setIfInBounds_toArray, List.set_cons_zero, List.set_cons_succ]
                refine wpAnyH_ready (rs := [10]) (by kernel_rfl) (by simp) ?_
                refine AllReadyH.cons (o := { dst := none, op := Op.store 23 (Operand.tmp 121) (Operand.tmp 120), type := 0, pos := "outright.go:174", after := #[{ on := 9, ground := Ground.data }, { on := 8, ground := Ground.data }, { on := 8, ground := Ground.chain }, { on := 0, ground := Ground.phase }, { on := 1, ground := Ground.phase }, { on := 2, ground := Ground.phase }, { on := 3, ground := Ground.phase }, { on := 4, ground := Ground.phase }, { on := 5, ground := Ground.phase }, { on := 6, ground := Ground.phase }, { on := 7, ground := Ground.phase }, { on := 8, ground := Ground.phase }], guard := none }) rfl (fun K hK => ?_) AllReadyH.nil
                have t1 : X2.cell? ⟨w7.heap.size, 1, none⟩ = some (.slice fa i fc) := by rw [cell_of_row _ _ _ _ _ _ KQ2.out]; rfl
                have t1f : X2.frozen? ⟨w7.heap.size, 1, none⟩ = false := by simp [World.frozen?, KQ2.out]
                go_simp
                have KQ6 := Lib.hid (heap_setCell_same X2 w7.heap.size 1 _ _ (.slice ga (i + 1) gc) KQ2.out)
                have HO6 := Lib.hid (own_low (w' := X2.setCell ⟨w7.heap.size, 1, none⟩ (.slice ga (i + 1) gc)) HO2.out (fun k c t f hk e => (Below.heap_setCell _ _ _ _ (show k ≠ w7.heap.size by have := HZ8.out; omega)).trans e))
                have HB6 := Lib.hid (HB2'.out.setCell (p := ⟨w7.heap.size, 1, none⟩) (Nat.le_refl _) (.slice ga (i + 1) gc))
                have hz10 : W8.heap.size ≤ X2.heap.size := by have := HX2.out; have := HZV.out.2.2; omega
                refine hK.out _ _ (hHeld.store (by omega) (by omega)) (fun hHeld => ?_)
                clear hK K
                try simp only [Act.put, List.setIfInBounds_toArray, List.set_cons_zero, List.set_cons_succ]
                refine wpAnyH_done (by kernel_rfl) ?_ _
                have HCE : Hid (rCells cR (kn.take i) ++ [.int .i64 r.kind, .slice va r.vars.length vc, .slice na r.nums.length nc, .int .i64 r.n] = rCells cR (kn.take (i + 1))) := Lib.hid (by rw [← HC.out, rCells_snoc (by omega), ← HK.out])
                clear hHeld t1 t1f KQ2 HO2 HB2'
                go_wp2
                go_roundw
                case rel => exact ⟨i + 1, .slice ga (i + 1) gc, by omega, by go_num, KQ6.out, (by show W8.heap.size ≤ (X2.setCell _ _).heap.size; simpa [World.setCell] using hz10), by rw [← HCE.out]; exact HO6.out, HB6.out⟩
                case measure => simp [intOf]; omega
            · have hi0i : ¬ (0 : Int) < (i : Int) := by omega
              clear hkc hrow
              go_wp2_with fail
              clear hkr hkrn k0
              have hh0 : HeldC w.heap.size rb (ro + k * 4) (.slice (some ⟨rb, ro, none⟩) p.rules.length rc) (.int .i64 r.kind) (.slice va r.vars.length vc) (.slice na r.nums.length nc) (.int .i64 r.n) wr := ⟨c1, r0, r1, r2, r3⟩
              have HH0 := Lib.hid hh0
              have zz := And.intro zwr zr
              have HZZ := Lib.hid zz
              clear hh0 r0 r1 r2 r3 c0 c1 t0 zz
              refine wp_region_held_drew (S := HeldC w.heap.size rb (ro + k * 4) (.slice (some ⟨rb, ro, none⟩) p.rules.length rc) (.int .i64 r.kind) (.slice va r.vars.length vc) (.slice na r.nums.length nc) (.int .i64 r.n)) (by kernel_rfl) (HH0.out.low (Below.drewn (Below.refl wr.heap.size wr)) zwr zr) (fun hHeld => ?_)
              change wpAnyH _ _ coresAOps _ _ _ _ _ _
              refine abs_anyHS (fun Z => Below wr.heap.size wr Z) (Below.drewn (Below.refl wr.heap.size wr)) hHeld ?_
              clear hHeld
              rintro V hbV hHeld
              have kqV := heap_later KQ.out hbV zqr
              have HKQ := Lib.hid kqV
              have HOWV := Lib.hid (own_ck HOW.out (CK.below hbV))
              have KQV := Lib.hid kqV
              have HBV := Lib.hid (HB.out.trans (hbV.mono HB.out.size))
              have HZV : Hid (w.heap.size < V.heap.size ∧ rb < V.heap.size ∧ W8.heap.size ≤ V.heap.size) := Lib.hid ⟨by have := hbV.size; omega, by have := hbV.size; omega, by have := hbV.size; omega⟩
              clear hbV kqV HKQ
              refine wpAnyH_take (i := 0) (oi := { dst := some 112, op := Op.fieldAddr 25 (Operand.tmp 10) 1, type := 0, pos := "outright.go:174", after := #[], guard := none }) (v := ?_) rfl (by kernel_rfl) (by kernel_rfl) (by kernel_rfl) (fun _ _ _ h => h) (Or.inl ⟨by kernel_rfl, ?_⟩) hHeld ?_
              rotate_left
              · intro w hSw
                obtain ⟨hs0, hs1, hs2, hs3, hs4⟩ := hSw
                go_simp
                try with_reducible rfl
              try simp only [Act.put, List.setIfInBounds_toArray, List.set_cons_zero, List.set_cons_succ]
              refine wpAnyH_take (i := 2) (oi := { dst := some 114, op := Op.fieldAddr 25 (Operand.tmp 2) 1, type := 0, pos := "outright.go:174", after := #[], guard := none }) (v := ?_) rfl (by kernel_rfl) (by kernel_rfl) (by kernel_rfl) (fun _ _ _ h => h) (Or.inl ⟨by kernel_rfl, ?_⟩) hHeld ?_
              rotate_left
              · intro w hSw
                obtain ⟨hs0, hs1, hs2, hs3, hs4⟩ := hSw
                go_simp
                try with_reducible rfl
              try simp only [Act.put, List.setIfInBounds_toArray, List.set_cons_zero, List.set_cons_succ]
              refine wpAnyH_take (i := 3) (oi := { dst := some 115, op := Op.load 23 (Operand.tmp 114), type := 23, pos := "outright.go:174", after := #[{ on := 2, ground := Ground.data }], guard := none }) (v := ?_) rfl (by kernel_rfl) (by kernel_rfl) (by kernel_rfl) (fun _ _ _ h => h) (Or.inl ⟨by kernel_rfl, ?_⟩) hHeld ?_
              rotate_left
              · intro w hSw
                obtain ⟨hs0, hs1, hs2, hs3, hs4⟩ := hSw
                go_simp
                try with_reducible rfl
              try simp only [Act.put, List.setIfInBounds_toArray, List.set_cons_zero, List.set_cons_succ]
              refine wpAnyH_take (i := 4) (oi := { dst := some 116, op := Op.move (Operand.tmp 12), type := 3, pos := "outright.go:174", after := #[], guard := none }) (v := ?_) rfl (by kernel_rfl) (by kernel_rfl) (by kernel_rfl) (fun _ _ _ h => h) (Or.inl ⟨by kernel_rfl, ?_⟩) hHeld ?_
              rotate_left
              · intro w hSw
                obtain ⟨hs0, hs1, hs2, hs3, hs4⟩ := hSw
                go_simp
                try with_reducible rfl
              try simp only [Act.put, List.setIfInBounds_toArray, List.set_cons_zero, List.set_cons_succ]
              refine wpAnyH_take (i := 5) (oi := { dst := some 117, op := Op.indexAddr 23 (Operand.tmp 115) (Operand.tmp 116), type := 0, pos := "outright.go:174", after := #[{ on := 3, ground := Ground.data }, { on := 4, ground := Ground.data }], guard := none }) (v := ?_) rfl (by kernel_rfl) (by kernel_rfl) (by kernel_rfl) (fun _ _ _ h => h) (Or.inl ⟨by kernel_rfl, ?_⟩) hHeld ?_
              rotate_left
              · intro w hSw
                obtain ⟨hs0, hs1, hs2, hs3, hs4⟩ := hSw
                go_simp
                try with_reducible rfl
              try simp only [Act.put, List.setIfInBounds_toArray, List.set_cons_zero, List.set_cons_succ]
              refine wpAnyH_take (i := 6) (oi := { dst := some 118, op := Op.load 35 (Operand.tmp 117), type := 35, pos := "outright.go:174", after := #[{ on := 5, ground := Ground.data }], guard := none }) (v := ?_) rfl (by kernel_rfl) (by kernel_rfl) (by kernel_rfl) (fun _ _ _ h => h) (Or.inl ⟨by kernel_rfl, ?_⟩) hHeld ?_
              rotate_left
              · intro w hSw
                obtain ⟨hs0, hs1, hs2, hs3, hs4⟩ := hSw
                go_simp
                try with_reducible rfl
              try simp only [Act.put, List.setIfInBounds_toArray, List.set_cons_zero, List.set_cons_succ]
              refine wpAnyH_ready (rs := [1, 7]) (by kernel_rfl) (by simp) ?_
              refine AllReadyH.cons (o := { dst := some 113, op := Op.load 23 (Operand.tmp 112), type := 23, pos := "outright.go:174", after := #[{ on := 0, ground := Ground.data }], guard := none }) rfl (fun K hK => ?_) (AllReadyH.cons (o := { dst := some 119, op := Op.buildSlice 23 1 #[(0, Operand.tmp 118)], type := 23, pos := "outright.go:174", after := #[{ on := 6, ground := Ground.data }], guard := none }) rfl (fun K hK => ?_) AllReadyH.nil)
              · have t0 : V.cell? ⟨w7.heap.size, 1, none⟩ = some (.slice fa i fc) := by rw [cell_of_row _ _ _ _ _ _ KQV.out]; rfl
                go_simp
                refine hK.out _ _ (hHeld) (fun hHeld => ?_)
                clear hK K
                try simp only [Act.put, List.setIfInBounds_toArray, List.set_cons_zero, List.set_cons_succ]
                clear t0
                refine wpAnyH_ready (rs := [7]) (by kernel_rfl) (by simp) ?_
                refine AllReadyH.cons (o := { dst := some 119, op := Op.buildSlice 23 1 #[(0, Operand.tmp 118)], type := 23, pos := "outright.go:174", after := #[{ on := 6, ground := Ground.data }], guard := none }) rfl (fun K hK => ?_) AllReadyH.nil
                go_simp
                have hnw := Below.new1 V (.cells #[.int .i64 r.kind, .slice va r.vars.length vc, .slice na r.nums.length nc, .int .i64 r.n] 35)
                have hv9 := heap_new0 V (.cells #[.int .i64 r.kind, .slice va r.vars.length vc, .slice na r.nums.length nc, .int .i64 r.n] 35)
                refine hK.out _ _ (hHeld.low hnw HZV.out.1 HZV.out.2.1) (fun hHeld => ?_)
                clear hK K
                try simp only [Act.put, List.setIfInBounds_toArray, List.set_cons_zero, List.set_cons_succ]
                obtain ⟨Y, hY⟩ : ∃ Y, Y = V.alloc (.cells #[.int .i64 r.kind, .slice va r.vars.length vc, .slice na r.nums.length nc, .int .i64 r.n] 35) := ⟨_, rfl⟩
                rw [← hY] at hnw hv9 hHeld ⊢
                have HNW := Lib.hid hnw; have HV9 := Lib.hid hv9
                clear hY hnw hv9
                refine wpAnyH_ready (rs := [8]) (by kernel_rfl) (by simp) ?_
                refine AllReadyH.cons (o := { dst := some 120, op := Op.call { callee := Callee.builtin Builtin.append, args := #[Operand.tmp 113, Operand.tmp 119], argTypes := #[23, 23] }, type := 23, pos := "outright.go:174", after := #[{ on := 1, ground := Ground.data }, { on := 7, ground := Ground.data }], guard := none }) rfl (fun K hK => ?_) AllReadyH.nil
                rw [if_pos (by rfl)]
                have how9 := own_ck HOWV.out (CK.below HNW.out)
                have kq9 := heap_later KQV.out HNW.out (Array.getElem?_eq_some_iff.1 KQV.out).1
                have hbY := HBV.out.trans (HNW.out.mono HBV.out.size)
                have hsY := HNW.out.size
                obtain ⟨i0, hin, hz0, hz1, hz2⟩ := info_parts infoR
                refine wp_append_own Y _ _ 23 rfl W8.heap.size 35 i0 _ 4 64 Tryd.underlying23 hin hz0 hz1 hz2 rfl (by decide) (.slice fa i fc) i (rCells cR (kn.take i)) rfl how9 ⟨V.heap.size, 0, none⟩ 1 1 [.int .i64 r.kind, .slice va r.vars.length vc, .slice na r.nums.length nc, .int .i64 r.n] rfl rfl ?_ ?_ (by unfold maxLen; omega) (by omega) (by have := HZV.out.2.2; omega) ?_
                · intro j u hj
                  rw [Addr.add_lit, Nat.zero_add, cell_of_row _ _ _ _ _ _ HV9.out, List.getElem?_toArray]; exact hj
                · intro u hu
                  simp only [List.mem_cons, List.not_mem_nil, or_false] at hu
                  rcases hu with rfl | rfl | rfl | rfl <;> rfl
                intro v' X2 hown2 hgrow2 _
                obtain ⟨ga, gc, rfl⟩ := own_form hown2
                have kq2 := (hgrow2.block _ (Array.getElem?_eq_some_iff.1 kq9).1 (fun hh => own_apart how9 kq9 (by decide) _ hh.symm rfl)).trans kq9
                have hgb : ∀ q, Value.ownBlock (.slice fa i fc) = some q → W8.heap.size ≤ q := fun q hq => (how9.lt q hq).1
                have hb2 := hbY.grown hgrow2 (by have := HZV.out.2.2; have := HZ8.out; omega) (fun q hq => by have := hgb q hq; have := HZ8.out; omega)
                have hlow2 := hHeld.grown hgrow2 (by have := HZV.out.2.2; omega) hgb (by have := HZ8.out; omega) (by have := HZ8.out; omega)
                have hx2 := hgrow2.size
                have HB2' := Lib.hid hb2; have KQ2 := Lib.hid kq2; have HO2 := Lib.hid hown2; have HX2 := Lib.hid (Nat.le_trans hsY hx2)
                clear how9 kq9 hbY hown2 hgrow2 hgb hb2 kq2 hx2 hsY hHeld
                refine hK.out _ _ (hlow2) (fun hHeld => ?_)
                clear hK K
                try simp only [Act.put, List.setIfInBounds_toArray, List.set_cons_zero, List.set_cons_succ]
                clear hlow2
                refine wpAnyH_ready (rs := [9]) (by kernel_rfl) (by simp) ?_
                refine AllReadyH.cons (o := { dst := some 121, op := Op.fieldAddr 25 (Operand.tmp 10) 1, type := 0, pos := "outright.go:174", after := #[{ on := 0, ground := Ground.phase }, { on := 1, ground := Ground.phase }, { on := 2, ground := Ground.phase }, { on := 3, ground := Ground.phase }, { on := 4, ground := Ground.phase }, { on := 5, ground := Ground.phase }, { on := 6, ground := Ground.phase }, { on := 7, ground := Ground.phase }, { on := 8, ground := Ground.phase }], guard := none }) rfl (fun K hK => ?_) AllReadyH.nil
                go_simp
                refine hK.out _ _ (hHeld) (fun hHeld => ?_)
                clear hK K
                try simp only [Act.put, List.setIfInBounds_toArray, List.set_cons_zero, List.set_cons_succ]
                refine wpAnyH_ready (rs := [10]) (by kernel_rfl) (by simp) ?_
                refine AllReadyH.cons (o := { dst := none, op := Op.store 23 (Operand.tmp 121) (Operand.tmp 120), type := 0, pos := "outright.go:174", after := #[{ on := 9, ground := Ground.data }, { on := 8, ground := Ground.data }, { on := 8, ground := Ground.chain }, { on := 0, ground := Ground.phase }, { on := 1, ground := Ground.phase }, { on := 2, ground := Ground.phase }, { on := 3, ground := Ground.phase }, { on := 4, ground := Ground.phase }, { on := 5, ground := Ground.phase }, { on := 6, ground := Ground.phase }, { on := 7, ground := Ground.phase }, { on := 8, ground := Ground.phase }], guard := none }) rfl (fun K hK => ?_) AllReadyH.nil
                have t1 : X2.cell? ⟨w7.heap.size, 1, none⟩ = some (.slice fa i fc) := by rw [cell_of_row _ _ _ _ _ _ KQ2.out]; rfl
                have t1f : X2.frozen? ⟨w7.heap.size, 1, none⟩ = false := by simp [World.frozen?, KQ2.out]
                go_simp
                have KQ6 := Lib.hid (heap_setCell_same X2 w7.heap.size 1 _ _ (.slice ga (i + 1) gc) KQ2.out)
                have HO6 := Lib.hid (own_low (w' := X2.setCell ⟨w7.heap.size, 1, none⟩ (.slice ga (i + 1) gc)) HO2.out (fun k c t f hk e => (Below.heap_setCell _ _ _ _ (show k ≠ w7.heap.size by have := HZ8.out; omega)).trans e))
                have HB6 := Lib.hid (HB2'.out.setCell (p := ⟨w7.heap.size, 1, none⟩) (Nat.le_refl _) (.slice ga (i + 1) gc))
                have hz10 : W8.heap.size ≤ X2.heap.size := by have := HX2.out; have := HZV.out.2.2; omega
                refine hK.out _ _ (hHeld.store (by omega) (by omega)) (fun hHeld => ?_)
                clear hK K
                try simp only [Act.put, List.setIfInBounds_toArray, List.set_cons_zero, List.set_cons_succ]
                refine wpAnyH_done (by kernel_rfl) ?_ _
                have HCE : Hid (rCells cR (kn.take i) ++ [.int .i64 r.kind, .slice va r.vars.length vc, .slice na r.nums.length nc, .int .i64 r.n] = rCells cR (kn.take (i + 1))) := Lib.hid (by rw [← HC.out, rCells_snoc (by omega), ← HK.out])
                clear hHeld t1 t1f KQ2 HO2 HB2'
                go_wp2
                go_roundw
                case rel => exact ⟨i + 1, .slice ga (i + 1) gc, by omega, by go_num, KQ6.out, (by show W8.heap.size ≤ (X2.setCell _ _).heap.size; simpa [World.setCell] using hz10), by rw [← HCE.out]; exact HO6.out, HB6.out⟩
                case measure => simp [intOf]; omega
              · go_simp
                have hnw := Below.new1 V (.cells #[.int .i64 r.kind, .slice va r.vars.length vc, .slice na r.nums.length nc, .int .i64 r.n] 35)
                have hv9 := heap_new0 V (.cells #[.int .i64 r.kind, .slice va r.vars.length vc, .slice na r.nums.length nc, .int .i64 r.n] 35)
                refine hK.out _ _ (hHeld.low hnw HZV.out.1 HZV.out.2.1) (fun hHeld => ?_)
                clear hK K
                try simp only [Act.put, List.setIfInBounds_toArray, List.set_cons_zero, List.set_cons_succ]
                obtain ⟨Y, hY⟩ : ∃ Y, Y = V.alloc (.cells #[.int .i64 r.kind, .slice va r.vars.length vc, .slice na r.nums.length nc, .int .i64 r.n] 35) := ⟨_, rfl⟩
                rw [← hY] at hnw hv9 hHeld ⊢
                have HNW := Lib.hid hnw; have HV9 := Lib.hid hv9
                clear hY hnw hv9
                have kqY := heap_later KQV.out HNW.out (Array.getElem?_eq_some_iff.1 KQV.out).1
                have t0 : Y.cell? ⟨w7.heap.size, 1, none⟩ = some (.slice fa i fc) := by rw [cell_of_row _ _ _ _ _ _ kqY]; rfl
                clear kqY
                refine wpAnyH_ready (rs := [1]) (by kernel_rfl) (by simp) ?_
                refine AllReadyH.cons (o := { dst := some 113, op := Op.load 23 (Operand.tmp 112), type := 23, pos := "outright.go:174", after := #[{ on := 0, ground := Ground.data }], guard := none }) rfl (fun K hK => ?_) AllReadyH.nil
                go_simp
                refine hK.out _ _ (hHeld) (fun hHeld => ?_)
                clear hK K
                try simp only [Act.put, List.setIfInBounds_toArray, List.set_cons_zero, List.set_cons_succ]
                clear t0
                refine wpAnyH_ready (rs := [8]) (by kernel_rfl) (by simp) ?_
                refine AllReadyH.cons (o := { dst := some 120, op := Op.call { callee := Callee.builtin Builtin.append, args := #[Operand.tmp 113, Operand.tmp 119], argTypes := #[23, 23] }, type := 23, pos := "outright.go:174", after := #[{ on := 1, ground := Ground.data }, { on := 7, ground := Ground.data }], guard := none }) rfl (fun K hK => ?_) AllReadyH.nil
                rw [if_pos (by rfl)]
                have how9 := own_ck HOWV.out (CK.below HNW.out)
                have kq9 := heap_later KQV.out HNW.out (Array.getElem?_eq_some_iff.1 KQV.out).1
                have hbY := HBV.out.trans (HNW.out.mono HBV.out.size)
                have hsY := HNW.out.size
                obtain ⟨i0, hin, hz0, hz1, hz2⟩ := info_parts infoR
                refine wp_append_own Y _ _ 23 rfl W8.heap.size 35 i0 _ 4 64 Tryd.underlying23 hin hz0 hz1 hz2 rfl (by decide) (.slice fa i fc) i (rCells cR (kn.take i)) rfl how9 ⟨V.heap.size, 0, none⟩ 1 1 [.int .i64 r.kind, .slice va r.vars.length vc, .slice na r.nums.length nc, .int .i64 r.n] rfl rfl ?_ ?_ (by unfold maxLen; omega) (by omega) (by have := HZV.out.2.2; omega) ?_
                · intro j u hj
                  rw [Addr.add_lit, Nat.zero_add, cell_of_row _ _ _ _ _ _ HV9.out, List.getElem?_toArray]; exact hj
                · intro u hu
                  simp only [List.mem_cons, List.not_mem_nil, or_false] at hu
                  rcases hu with rfl | rfl | rfl | rfl <;> rfl
                intro v' X2 hown2 hgrow2 _
                obtain ⟨ga, gc, rfl⟩ := own_form hown2
                have kq2 := (hgrow2.block _ (Array.getElem?_eq_some_iff.1 kq9).1 (fun hh => own_apart how9 kq9 (by decide) _ hh.symm rfl)).trans kq9
                have hgb : ∀ q, Value.ownBlock (.slice fa i fc) = some q → W8.heap.size ≤ q := fun q hq => (how9.lt q hq).1
                have hb2 := hbY.grown hgrow2 (by have := HZV.out.2.2; have := HZ8.out; omega) (fun q hq => by have := hgb q hq; have := HZ8.out; omega)
                have hlow2 := hHeld.grown hgrow2 (by have := HZV.out.2.2; omega) hgb (by have := HZ8.out; omega) (by have := HZ8.out; omega)
                have hx2 := hgrow2.size
                have HB2' := Lib.hid hb2; have KQ2 := Lib.hid kq2; have HO2 := Lib.hid hown2; have HX2 := Lib.hid (Nat.le_trans hsY hx2)
                clear how9 kq9 hbY hown2 hgrow2 hgb hb2 kq2 hx2 hsY hHeld
                refine hK.out _ _ (hlow2) (fun hHeld => ?_)
                clear hK K
                try simp only [Act.put, List.setIfInBounds_toArray, List.set_cons_zero, List.set_cons_succ]
                clear hlow2
                refine wpAnyH_ready (rs := [9]) (by kernel_rfl) (by simp) ?_
                refine AllReadyH.cons (o := { dst := some 121, op := Op.fieldAddr 25 (Operand.tmp 10) 1, type := 0, pos := "outright.go:174", after := #[{ on := 0, ground := Ground.phase }, { on := 1, ground := Ground.phase }, { on := 2, ground := Ground.phase }, { on := 3, ground := Ground.phase }, { on := 4, ground := Ground.phase }, { on := 5, ground := Ground.phase }, { on := 6, ground := Ground.phase }, { on := 7, ground := Ground.phase }, { on := 8, ground := Ground.phase }], guard := none }) rfl (fun K hK => ?_) AllReadyH.nil
                go_simp
                refine hK.out _ _ (hHeld) (fun hHeld => ?_)
                clear hK K
                try simp only [Act.put, List.setIfInBounds_toArray, List.set_cons_zero, List.set_cons_succ]
                refine wpAnyH_ready (rs := [10]) (by kernel_rfl) (by simp) ?_
                refine AllReadyH.cons (o := { dst := none, op := Op.store 23 (Operand.tmp 121) (Operand.tmp 120), type := 0, pos := "outright.go:174", after := #[{ on := 9, ground := Ground.data }, { on := 8, ground := Ground.data }, { on := 8, ground := Ground.chain }, { on := 0, ground := Ground.phase }, { on := 1, ground := Ground.phase }, { on := 2, ground := Ground.phase }, { on := 3, ground := Ground.phase }, { on := 4, ground := Ground.phase }, { on := 5, ground := Ground.phase }, { on := 6, ground := Ground.phase }, { on := 7, ground := Ground.phase }, { on := 8, ground := Ground.phase }], guard := none }) rfl (fun K hK => ?_) AllReadyH.nil
                have t1 : X2.cell? ⟨w7.heap.size, 1, none⟩ = some (.slice fa i fc) := by rw [cell_of_row _ _ _ _ _ _ KQ2.out]; rfl
                have t1f : X2.frozen? ⟨w7.heap.size, 1, none⟩ = false := by simp [World.frozen?, KQ2.out]
                go_simp
                have KQ6 := Lib.hid (heap_setCell_same X2 w7.heap.size 1 _ _ (.slice ga (i + 1) gc) KQ2.out)
                have HO6 := Lib.hid (own_low (w' := X2.setCell ⟨w7.heap.size, 1, none⟩ (.slice ga (i + 1) gc)) HO2.out (fun k c t f hk e => (Below.heap_setCell _ _ _ _ (show k ≠ w7.heap.size by have := HZ8.out; omega)).trans e))
                have HB6 := Lib.hid (HB2'.out.setCell (p := ⟨w7.heap.size, 1, none⟩) (Nat.le_refl _) (.slice ga (i + 1) gc))
                have hz10 : W8.heap.size ≤ X2.heap.size := by have := HX2.out; have := HZV.out.2.2; omega
                refine hK.out _ _ (hHeld.store (by omega) (by omega)) (fun hHeld => ?_)
                clear hK K
                try simp only [Act.put, List.setIfInBounds_toArray, List.set_cons_zero, List.set_cons_succ]
                refine wpAnyH_done (by kernel_rfl) ?_ _
                have HCE : Hid (rCells cR (kn.take i) ++ [.int .i64 r.kind, .slice va r.vars.length vc, .slice na r.nums.length nc, .int .i64 r.n] = rCells cR (kn.take (i + 1))) := Lib.hid (by rw [← HC.out, rCells_snoc (by omega), ← HK.out])
                clear hHeld t1 t1f KQ2 HO2 HB2'
                go_wp2
                go_roundw
                case rel => exact ⟨i + 1, .slice ga (i + 1) gc, by omega, by go_num, KQ6.out, (by show W8.heap.size ≤ (X2.setCell _ _).heap.size; simpa [World.setCell] using hz10), by rw [← HCE.out]; exact HO6.out, HB6.out⟩
                case measure => simp [intOf]; omega
          · have hi2 : i = ks.length := by omega
            subst hi2
            obtain ⟨q, hq⟩ : ∃ q, q = pickD p kn := ⟨_, rfl⟩
            have hqc : q = coreP p (coreD p (propD p).2 n) := by
              rw [hq, HKN.out, HKS.out, HL.out]
              show (⟨p.doms, _⟩ : Dp) = ⟨p.doms, _⟩
              rw [List.map_map]; rfl
            have hqo : probD q = true := by
              have := coreP_ok HPO.out n (propD p).2 (coreD p (propD p).2 n).length
              rw [List.take_length] at this
              rw [hqc]; exact this
            have hqd : q.doms = p.doms := by rw [hq]; rfl
            have hql : q.rules.length = ks.length := by rw [hq]; show (kn.map _).length = _; rw [List.length_map]; exact hknl
            have hrls : DRls wr wr.heap.size v q.rules := by
              rw [show kn.take ks.length = kn by rw [← hknl, List.take_length]] at how
              refine rules_own (B := B) (base := W8.heap.size) how hql.symm (by omega) (by have := HBWr.out.size; omega) fun i hi => ?_
              have hin : i < kn.length := by omega
              have hkn : nget kn i = kn[i] := by unfold nget; rw [List.getElem?_eq_getElem hin]; rfl
              obtain ⟨e0, e1, e2, e3⟩ := HCRR.out kn[i] (by rw [← hkn]; exact (HKV.out i (by omega)).2)
              have eq : drget q.rules i = drget p.rules kn[i] := by rw [hq]; exact pick_get hin
              rw [eq]
              have g0 := rCells_get cR kn i hin 0 (by omega)
              have g1 := rCells_get cR kn i hin 1 (by omega)
              have g2 := rCells_get cR kn i hin 2 (by omega)
              have g3 := rCells_get cR kn i hin 3 (by omega)
              rw [Nat.add_zero, Nat.add_zero, e0] at g0
              rw [e3] at g3
              exact ⟨g0, g3, _, _, g1, g2, e1.below HBWr.out hB, e2.below HBWr.out hB⟩
            have hnone : ∀ vs, InD p.doms vs → nget vs x = ev → allHold q (vs.map natI) = false := fun vs hi he => by
              rw [Bool.eq_false_iff]
              intro hah
              have hnp2 : n < (propD p).2.length := by rw [← HL.out]; exact hnl
              refine core_none HPO.out hnp2 hi (fun j hj => ?_) x ⟨by rw [← HL.out]; exact HX1.out, by rw [← HL.out, he]; exact HX2.out⟩
              unfold allHold at hah
              have hm : drget p.rules j ∈ q.rules := by
                rw [hqc]
                exact List.mem_map.2 ⟨(j : Int), hj, by rw [Int.toNat_natCast]⟩
              exact List.all_eq_true.1 hah _ hm
            obtain ⟨qa, qc, rfl⟩ := own_form how
            have hcr : (cget l n).rule ∈ ks := by
              have hnp2 : n < (propD p).2.length := by rw [← HL.out]; exact hnl
              rw [HKS.out, HL.out]
              exact hang_core HPO.out hnp2 (Hang.start _ _)
            have HQO := Lib.hid hqo; have HQD := Lib.hid hqd; have HRLS := Lib.hid hrls; have HNONE := Lib.hid hnone; have HCR := Lib.hid hcr; have HQL := Lib.hid hql
            have zr := hb.size
            have zqr : w7.heap.size < wr.heap.size := (Array.getElem?_eq_some_iff.1 KQ.out).1
            have KNr := Lib.hid (heap_later KN7.out hb (by omega)); have KLr := Lib.hid (heap_later KL7.out hb (by omega)); have HCr := Lib.hid (HC7.out.below hb (by omega)); have HKIr2 := Lib.hid (HKIr.mono (show w7.heap.size ≤ wr.heap.size by omega))
            have zpr : w.heap.size < wr.heap.size := (Array.getElem?_eq_some_iff.1 KP.out).1
            clear hqc hqo hqd hrls hnone hcr how hq HKV HUP HKN HCROW HCRR HOW hi kq hql
            have HEM := Lib.hid (lawEmpty_any p.doms _ wr (HDV.out.below HBWr.out hB))
            rw [cut_full (p := p) (by have := hnl; rw [HL.out] at this; omega) hn8] at HEM
            have c0 : wr.cell? ⟨w.heap.size, 0, none⟩ = some (.slice da p.doms.length dc) := by rw [cell_of_row _ _ _ _ _ _ KP.out]; rfl
            have c1 : wr.cell? ⟨w.heap.size, 1, none⟩ = some (.slice ra p.rules.length rc) := by rw [cell_of_row _ _ _ _ _ _ KP.out]; rfl
            go_wp2_with fail
            refine HEM.out.mono ?_
            rintro e w11 ⟨rfl, hb11⟩
            have HB11 := Lib.hid (HBWr.out.trans (hb11.mono HBWr.out.size))
            have z11 := hb11.size
            have KQ11 := Lib.hid (heap_later KQ.out hb11 zqr)
            have KN11 := Lib.hid (heap_later KNr.out hb11 (Array.getElem?_eq_some_iff.1 KNr.out).1)
            have KL11 := Lib.hid (heap_later KLr.out hb11 (Array.getElem?_eq_some_iff.1 KLr.out).1)
            have K11 := Lib.hid (heap_later KP.out hb11 zpr)
            have HC11 := Lib.hid ((HCr.out.below hb11 (by omega)).mono (show w6.heap.size ≤ w11.heap.size by omega))
            have HRL11 := Lib.hid ((HRLS.out.below hb11 (Nat.le_refl _)).mono z11)
            have HKI11 := Lib.hid ((HKIr2.out.below hb11 (Nat.le_refl _)).mono z11)
            have HCH := Lib.hid (chosen_all p.doms (probD_parts HPO.out).2.2.2.1 hn8 23 #[.pointer (some ⟨w3.heap.size, 0, none⟩), .pointer (some ⟨W.heap.size, 0, none⟩), .pointer (some ⟨w7.heap.size, 0, none⟩)] (.slice da p.doms.length dc) w11 (HDV.out.below HB11.out hB) (by omega)
              (enters_of Tryd.func23 (by kernel_rfl) rfl)
              (fun vs hvs V lv hbV hlv => by
                have zV := hbV.size
                exact cores1_any q HQO.out l n x ev hnl HX1.out HX2.out vs (by rw [hvs.1]; exact hxn) ⟨by rw [List.length_map, hvs.1, HQD.out], fun i => by
                    rw [iget_nat]
                    have := nget_lt16 (inD_lt hvs (probD_parts HPO.out).2.2.2.1) i
                    omega⟩ (HNONE.out vs hvs) _ _ _ _ _ _ _ V (B := V.heap.size) (Nat.le_refl _) ((HC11.out.below hbV (Nat.le_refl _)).mono zV) (by rw [HQD.out]; exact ((HDV.out.below HB11.out hB).below hbV (by omega)).mono (by omega)) ((HRL11.out.below hbV (Nat.le_refl _)).mono zV) hlv
                  (heap_later KL11.out hbV (Array.getElem?_eq_some_iff.1 KL11.out).1) (heap_later KN11.out hbV (Array.getElem?_eq_some_iff.1 KN11.out).1) (heap_later KQ11.out hbV (Array.getElem?_eq_some_iff.1 KQ11.out).1))
              p.doms.length [] (by simp) (fun j hj => by simp at hj) w11 (.slice none 0 0) (Below.refl _ _) (ints_nil _ _))
            clear hb hb11 c0 c1
            have c0 : w11.cell? ⟨w.heap.size, 0, none⟩ = some (.slice da p.doms.length dc) := by rw [cell_of_row _ _ _ _ _ _ K11.out]; rfl
            have c1 : w11.cell? ⟨w.heap.size, 1, none⟩ = some (.slice ra p.rules.length rc) := by rw [cell_of_row _ _ _ _ _ _ K11.out]; rfl
            go_wp2_with fail
            refine HCH.out.mono ?_
            rintro e w12 ⟨rfl, hb12⟩
            have HB12 := Lib.hid (HB11.out.trans (hb12.mono HB11.out.size))
            have kn12 := heap_later KN11.out hb12 (Array.getElem?_eq_some_iff.1 KN11.out).1
            have kl12 := heap_later KL11.out hb12 (Array.getElem?_eq_some_iff.1 KL11.out).1
            obtain ⟨cf, hrow, hcf⟩ := HC11.out.below hb12 (Nat.le_refl _)
            obtain ⟨_, a', c', hae, _, _, hrw⟩ := hrow
            cases hae
            obtain ⟨cb2, co2, hae, hcb, hcc⟩ := hrw (by omega)
            cases hae
            obtain ⟨_, _, e2, _⟩ := hcf n hnl
            have q2 : w12.cell? ⟨cb, co + n * 4 + 2, none⟩ = some (.int .i64 (cget l n).rule) := by have := hcc (n * 4 + 2) (by omega); rw [e2] at this; exact this
            have l0 : w12.cell? ⟨w3.heap.size, 0, none⟩ = some (.slice (some ⟨cb, co, none⟩) l.length yc) := by rw [cell_of_row _ _ _ _ _ _ kl12]; rfl
            have n0 : w12.cell? ⟨W.heap.size, 0, none⟩ = some (.int .i64 n) := by rw [cell_of_row _ _ _ _ _ _ kn12]; rfl
            have HKI12 := Lib.hid (HKI11.out.below hb12 (Nat.le_refl _))
            clear hb12 kn12 kl12 hrw hcf hcc e2 c0 c1 HCH HC11 KN11 KL11 HRL11
            go_wp2_with fail
            refine (contains_ints _ ks (cget l n).rule w12 HKI12.out).mono ?_
            rintro e w13 ⟨rfl, hww⟩
            rw [hww, show ihas ks (cget l n).rule = true by unfold ihas; rw [List.contains_iff_mem]; exact HCR.out]
            clear hww w13
            go_wp2_with fail
            refine (works_any _ (HT.out.below HB12.out hw0) (by have := HB12.out.size; omega)).mono ?_
            rintro e1 w9 ⟨rfl, hb9⟩
            have HF := Lib.hid (HB12.out.trans (hb9.mono HB12.out.size))
            clear hb9
            go_wp2
            go_ret
            exact ⟨rfl, HF.out⟩
end Go.Proofs.YtdmmegmkdhinjaaDoor
