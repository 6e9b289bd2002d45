/- The reference: Core. -/
import Derived.Test.YtilbbnjfaoldoaaDoorRefQ
namespace Go.Proofs.YtilbbnjfaoldoaaDoor
open Go Go.RowKit
attribute [local go_sem] cell_grow u64_sAnd u64_sOr u64_sDiff sDiff_all zeqI zneI sAnd_bit_zero sAnd_bit_zeroN sAnd_bit_nonzero rowOf_grow rowOk_grow rowOf_alloc rowOk_alloc

theorem pick_all (p : Prob) : pick p (allN p) = p := by
  obtain ⟨b, rs⟩ := p
  unfold pick allN
  congr 1
  apply List.ext_getElem (by simp)
  intro i h1 h2
  simp [rget, h2]
theorem noneR_all (p : Prob) : noneR p (allN p) = searchR p 1 := by unfold noneR; rw [pick_all]
/-- The cells that the region which takes a rule over reads. -/
def HeldC (pb : Nat) (rsl : Value) (xb xk n rb ro : Nat) (r : Rl) (vs : Value) (Z : World) : Prop :=
  Z.cell? ⟨pb, 1, none⟩ = some rsl ∧ Z.cell? ⟨xb, xk, none⟩ = some (.int .i64 (n : Int)) ∧ Z.cell? ⟨rb, ro + n * 4, none⟩ = some (.int .i64 r.kind) ∧ Z.cell? ⟨rb, ro + n * 4 + 1, none⟩ = some vs ∧ Z.cell? ⟨rb, ro + n * 4 + 2, none⟩ = some (.int .i64 r.low) ∧ Z.cell? ⟨rb, ro + n * 4 + 3, none⟩ = some (.int .i64 r.high)
theorem HeldC.low {pb : Nat} {rsl : Value} {xb xk n rb ro : Nat} {r : Rl} {vs : Value} {V Z : World} {N : Nat} (h : HeldC pb rsl xb xk n rb ro r vs V) (hb : Below N V Z) (h1 : pb < N) (h2 : xb < N) (h3 : rb < N) : HeldC pb rsl xb xk n rb ro r vs Z :=
  ⟨(hb.cell (p := ⟨pb, _, none⟩) h1).trans h.1, (hb.cell (p := ⟨xb, _, none⟩) h2).trans h.2.1, (hb.cell (p := ⟨rb, _, none⟩) h3).trans h.2.2.1, (hb.cell (p := ⟨rb, _, none⟩) h3).trans h.2.2.2.1, (hb.cell (p := ⟨rb, _, none⟩) h3).trans h.2.2.2.2.1, (hb.cell (p := ⟨rb, _, none⟩) h3).trans h.2.2.2.2.2⟩
theorem HeldC.set {pb : Nat} {rsl : Value} {xb xk n rb ro : Nat} {r : Rl} {vs : Value} {Z : World} (h : HeldC pb rsl xb xk n rb ro r vs Z) {q o : Nat} {x : Value} (h1 : pb ≠ q) (h2 : xb ≠ q) (h3 : rb ≠ q) : HeldC pb rsl xb xk n rb ro r vs (Z.setCell ⟨q, o, none⟩ x) := by
  have key : ∀ b o', b ≠ q → (Z.setCell ⟨q, o, none⟩ x).cell? ⟨b, o', none⟩ = Z.cell? ⟨b, o', none⟩ := fun b o' hb => World.cell?_of_block (Below.heap_setCell _ _ _ _ (by exact hb))
  unfold HeldC
  rw [key _ _ h1, key _ _ h2, key _ _ h3, key _ _ h3, key _ _ h3, key _ _ h3]
  exact h
def CoreP (p : Prob) (w : World) (e : Ending) (w' : World) : Prop := ∃ cv, e = .returned (.tuple #[cv, .int .i64 (coreR p).2]) ∧ Ints w' w'.heap.size cv ((coreR p).1.map natI) ∧ Below w.heap.size w w'


def coreAOps : Array Oper := #[
  { dst := some 38, op := Op.move (Operand.tmp 5), type := 46, pos := "ref.go:358", after := #[], guard := none },
  { dst := some 39, op := Op.move (Operand.tmp 7), type := 3, pos := "ref.go:358", after := #[], guard := none },
  { dst := some 40, op := Op.slice 46 (Operand.tmp 38) none (some (Operand.tmp 39)) none, type := 46, pos := "ref.go:358", after := #[{ on := 0, ground := Ground.data }, { on := 1, ground := Ground.data }], guard := none },
  { dst := some 41, op := Op.call { callee := Callee.builtin Builtin.append, args := #[Operand.const (Value.slice none 0 0), Operand.tmp 40], argTypes := #[46, 46] }, type := 46, pos := "ref.go:358", after := #[{ on := 2, ground := Ground.data }], guard := none },
  { dst := some 42, op := Op.move (Operand.tmp 5), type := 46, pos := "ref.go:358", after := #[], guard := none },
  { dst := some 43, op := Op.move (Operand.tmp 7), type := 3, pos := "ref.go:358", after := #[], guard := none },
  { dst := some 44, op := Op.binOp BinOp.add 3 (Operand.tmp 43) (Operand.const (Value.int IntKind.i64 1)) 3, type := 3, pos := "ref.go:358", after := #[{ on := 5, ground := Ground.data }], guard := none },
  { dst := some 45, op := Op.slice 46 (Operand.tmp 42) (some (Operand.tmp 44)) none none, type := 46, pos := "ref.go:358", after := #[{ on := 4, ground := Ground.data }, { on := 6, ground := Ground.data }], guard := none },
  { dst := some 46, op := Op.call { callee := Callee.builtin Builtin.append, args := #[Operand.tmp 41, Operand.tmp 45], argTypes := #[46, 46] }, type := 46, pos := "ref.go:358", after := #[{ on := 3, ground := Ground.data }, { on := 7, ground := Ground.data }, { on := 3, ground := Ground.chain }], guard := none },
  { dst := some 8, op := Op.assign (Operand.tmp 46), type := 46, pos := "ref.go:358", after := #[{ on := 8, ground := Ground.data }, { on := 8, ground := Ground.chain }, { on := 0, ground := Ground.phase }, { on := 1, ground := Ground.phase }, { on := 2, ground := Ground.phase }, { on := 3, ground := Ground.phase }, { on := 4, ground := Ground.phase }, { on := 5, ground := Ground.phase }, { on := 6, ground := Ground.phase }, { on := 7, ground := Ground.phase }, { on := 8, ground := Ground.phase }], guard := none }]
def coreBOps : Array Oper := #[
  { dst := some 56, op := Op.fieldAddr 25 (Operand.tmp 9) 1, type := 0, pos := "ref.go:361", after := #[], guard := none },
  { dst := some 57, op := Op.load 23 (Operand.tmp 56), type := 23, pos := "ref.go:361", after := #[{ on := 0, ground := Ground.data }], guard := none },
  { dst := some 58, op := Op.fieldAddr 25 (Operand.tmp 1) 1, type := 0, pos := "ref.go:361", after := #[], guard := none },
  { dst := some 59, op := Op.load 23 (Operand.tmp 58), type := 23, pos := "ref.go:361", after := #[{ on := 2, ground := Ground.data }], guard := none },
  { dst := some 60, op := Op.move (Operand.tmp 8), type := 46, pos := "ref.go:361", after := #[], guard := none },
  { dst := some 61, op := Op.move (Operand.tmp 10), type := 3, pos := "ref.go:361", after := #[], guard := none },
  { dst := some 62, op := Op.indexAddr 46 (Operand.tmp 60) (Operand.tmp 61), type := 0, pos := "ref.go:361", after := #[{ on := 4, ground := Ground.data }, { on := 5, ground := Ground.data }], guard := none },
  { dst := some 63, op := Op.load 3 (Operand.tmp 62), type := 3, pos := "ref.go:361", after := #[{ on := 6, ground := Ground.data }], guard := none },
  { dst := some 64, op := Op.indexAddr 23 (Operand.tmp 59) (Operand.tmp 63), type := 0, pos := "ref.go:361", after := #[{ on := 3, ground := Ground.data }, { on := 7, ground := Ground.data }], guard := none },
  { dst := some 65, op := Op.load 63 (Operand.tmp 64), type := 63, pos := "ref.go:361", after := #[{ on := 8, ground := Ground.data }], guard := none },
  { dst := some 66, op := Op.buildSlice 23 1 #[(0, Operand.tmp 65)], type := 23, pos := "ref.go:361", after := #[{ on := 9, ground := Ground.data }], guard := none },
  { dst := some 67, op := Op.call { callee := Callee.builtin Builtin.append, args := #[Operand.tmp 57, Operand.tmp 66], argTypes := #[23, 23] }, type := 23, pos := "ref.go:361", after := #[{ on := 1, ground := Ground.data }, { on := 10, ground := Ground.data }], guard := none },
  { dst := some 68, op := Op.fieldAddr 25 (Operand.tmp 9) 1, type := 0, pos := "ref.go:361", after := #[{ on := 0, ground := Ground.phase }, { on := 1, ground := Ground.phase }, { on := 2, ground := Ground.phase }, { on := 3, ground := Ground.phase }, { on := 4, ground := Ground.phase }, { on := 5, ground := Ground.phase }, { on := 6, ground := Ground.phase }, { on := 7, ground := Ground.phase }, { on := 8, ground := Ground.phase }, { on := 9, ground := Ground.phase }, { on := 10, ground := Ground.phase }, { on := 11, ground := Ground.phase }], guard := none },
  { dst := none, op := Op.store 23 (Operand.tmp 68) (Operand.tmp 67), type := 0, pos := "ref.go:361", after := #[{ on := 12, ground := Ground.data }, { on := 11, ground := Ground.data }, { on := 11, ground := Ground.chain }, { on := 0, ground := Ground.phase }, { on := 1, ground := Ground.phase }, { on := 2, ground := Ground.phase }, { on := 3, ground := Ground.phase }, { on := 4, ground := Ground.phase }, { on := 5, ground := Ground.phase }, { on := 6, ground := Ground.phase }, { on := 7, ground := Ground.phase }, { on := 8, ground := Ground.phase }, { on := 9, ground := Ground.phase }, { on := 10, ground := Ground.phase }, { on := 11, ground := Ground.phase }], guard := none }]
set_option maxRecDepth 100000 in
set_option maxHeartbeats 4000000 in
theorem refCore_any (p : Prob) (hpo : probOk p = true) (bv rv : Value) (w : World) {B : Nat} (hbv : Bnds w B bv p.bounds) (hrv : Rls w B rv p.rules) (hB : B ≤ w.heap.size) :
    Calls Tryd.prog 28 #[.agg #[bv, rv]] w (CoreP p w) := by
  have HBV := Lib.hid hbv; have HRV := Lib.hid hrv; have HPO := Lib.hid hpo
  have hr12 := (probOk_fit hpo).2.2.1
  obtain ⟨ba, bc, rfl⟩ := hbv.slice
  obtain ⟨ra, rc, rfl⟩ := hrv.slice
  obtain ⟨i0, hin, hz0, hz1, hz2⟩ := info_parts Tryd.info3
  clear hbv hrv hpo
  have K0 := Lib.hid (heap_new0 w (.cells #[.slice ba p.bounds.length bc, .slice ra p.rules.length rc] 25)); have HB0 := Lib.hid (Below.new1 w (.cells #[.slice ba p.bounds.length bc, .slice ra p.rules.length rc] 25))
  go_enter Tryd.func28, Tryd.ntmps28
  go_wp2_with fail
  refine (refSolve_any p HPO.out 1 (by decide) _ _ _ (HBV.out.below HB0.out hB) (HRV.out.below HB0.out hB) (by simp; omega)).mono ?_
  rintro e w2 ⟨sv, rfl, hso, hb2⟩
  obtain ⟨s, hs⟩ : ∃ s, s = searchR p 1 := ⟨_, rfl⟩
  rw [← hs] at hso ⊢
  obtain ⟨sa, sc, rfl⟩ : ∃ a c, sv = .slice a s.sols.length c := by obtain ⟨cs0, hc0, _⟩ := hso; exact own_form hc0
  have HS : Hid (noneR p (allN p) = s) := Lib.hid (by rw [noneR_all, hs])
  have hb3 := (HB0.out.trans (hb2.mono (by simp))).trans ((Below.new1 w2 (.cells #[.slice sa s.sols.length sc, .int .i64 (s.nodes : Nat), .bool s.opn] 50)).mono (by have := hb2.size; simp at this; omega))
  have k3 := heap_later (heap_later K0.out hb2 (by simp)) (Below.new1 w2 (.cells #[.slice sa s.sols.length sc, .int .i64 (s.nodes : Nat), .bool s.opn] 50)) (by have := hb2.size; simp at this; omega)
  have HB3 := Lib.hid hb3; have K3 := Lib.hid k3
  have z2 : w.heap.size < w2.heap.size := by have := hb2.size; simp at this; omega
  clear hso hb2 hb3 k3 K0 HB0 hs
  cases ho : s.opn
  case true =>
    have hres : coreR p = ([], 8) := by unfold coreR; rw [HPO.out, HS.out, ho]; rfl
    have HRES := Lib.hid hres
    rw [ho] at HB3
    clear hres ho K3
    go_wp2
    go_ret2
    exact ⟨_, by rw [HRES.out]; rfl, by rw [HRES.out]; exact Ints.nil _ _, HB3.out⟩
  case false =>
    rw [ho] at HB3 K3
    by_cases hz : s.sols.length = 0
    · have hres : coreR p = (match coreRed p p.rules.length (allN p) with | some c => (c, 0) | none => ([], 8)) := by unfold coreR noneB; rw [HPO.out, HS.out, ho, hz]; rfl
      have HRES := Lib.hid hres
      rw [hz] at HB3 K3
      rw [hz]
      have z3 : w.heap.size < (w2.alloc (.cells #[.slice sa 0 sc, .int .i64 (s.nodes : Nat), .bool false] 50)).heap.size := by simp; omega
      have c1 : (w2.alloc (.cells #[.slice sa 0 sc, .int .i64 (s.nodes : Nat), .bool false] 50)).cell? ⟨w.heap.size, 1, none⟩ = some (.slice ra p.rules.length rc) := by rw [cell_of_row _ _ _ _ _ _ K3.out]; rfl
      clear hres ho hz z3
      go_wp2_with fail
      go_loopw [5, 6] (fun yv i wr => ∃ k : Nat, k ≤ p.rules.length ∧ i = .int .i64 k ∧ wr.ownsRow (w.heap.size + 1) 3 1 yv k (intsV ((List.range k).map natI)) ∧ wr.heap[w.heap.size]? = some (.cells #[.slice ba p.bounds.length bc, .slice ra p.rules.length rc] 25 (0, 0)) ∧ Below w.heap.size w wr) (fun _ i _ => p.rules.length - (intOf i).toNat)
      case atStart => exact ⟨0, Nat.zero_le _, rfl, World.ownsRow_nil _ _ _ _, K3.out, HB3.out⟩
      case round =>
        clear K3 HB3 c1
        obtain ⟨k, hk, rfl, hown, k0, hb⟩ := hrel
        have z0 : w.heap.size < wr.heap.size := (Array.getElem?_eq_some_iff.1 k0).1
        have c1 : wr.cell? ⟨w.heap.size, 1, none⟩ = some (.slice ra p.rules.length rc) := by rw [cell_of_row _ _ _ _ _ _ k0]; rfl
        by_cases hlt : k < p.rules.length
        · have hrs : (List.range (k + 1)).map natI = (List.range k).map natI ++ [((k : Nat) : Int)] := by rw [List.range_succ, List.map_append]; rfl
          have HOW := Lib.hid hown; have HB := Lib.hid hb; have HRS := Lib.hid hrs; have K0 := Lib.hid k0
          clear hown hb hrs k0
          go_wp2_with (at_builtin; refine wpList_append_own _ rfl _ _ 46 rfl (w.heap.size + 1) 3 i0 (.int .i64 0) 1 8 Tryd.underlying46 hin hz0 hz1 hz2 rfl (by decide) _ _ _ rfl (HOW.out.alloc _) ⟨wr.heap.size, 0, none⟩ 1 1 (intsV [((k : Nat) : Int)]) rfl rfl ?c1 ?c2 ?c3 ?c4 ?c5 ?_)
          case c1 =>
            intro q u hq
            match q, hq with
            | 0, hq => cases hq; rw [Addr.add_lit]; exact cell_of_one (heap_new0 _ _)
          case c2 => exact ints_one _
          case c3 => unfold maxLen; omega
          case c4 => omega
          case c5 => have := HB.out.size; simp; omega
          intro v' w3 hown3 hgrow3 _
          have hb3 := (HB.out.alloc HB.out.size (.cells #[.int .i64 k] 3)).grown hgrow3 (by have := HB.out.size; simp; omega) (fun q hq => by have := (HOW.out.lt q hq).1; omega)
          have k3 := (hgrow3.block w.heap.size (by simp; omega) (fun hh => by have := (HOW.out.lt _ hh.symm).1; omega)).trans (heap_old K0.out)
          rw [intsV_append, ← HRS.out] at hown3
          have HO3 := Lib.hid hown3; have HB3 := Lib.hid hb3; have K3 := Lib.hid k3
          clear hown3 hgrow3 hb3 c1 k3
          go_wp2
          go_roundw
          case rel => exact ⟨k + 1, by omega, by go_num, HO3.out, K3.out, HB3.out⟩
          case measure => simp [intOf]; omega
        · have hk2 : k = p.rules.length := by omega
          subst hk2
          have hal : (allN p).length = p.rules.length := by simp [allN]
          have halt : ∀ n ∈ allN p, n < p.rules.length := fun n hn => List.mem_range.1 hn
          have hown2 : wr.ownsRow (w.heap.size + 1) 3 1 u5 (allN p).length (intsV ((allN p).map natI)) := by rw [hal]; exact hown
          obtain ⟨ya, yc, rfl⟩ := own_form hown
          have HAL := Lib.hid hal; have HALT := Lib.hid halt; have HOW := Lib.hid hown2; have K0 := Lib.hid k0; have HB := Lib.hid hb
          clear hal halt hown hown2 k0 hb
          go_wp2_with fail
          clear c1 z0
          go_loopw [5, 7] (fun yv i wr => ∃ (m : Nat) (ns : List Nat), i = .int .i64 ((m : Int) - 1) ∧ m ≤ ns.length ∧ ns.length ≤ p.rules.length ∧ (∀ n ∈ ns, n < p.rules.length) ∧ coreRed p m ns = coreRed p p.rules.length (allN p) ∧
            wr.ownsRow (w.heap.size + 1) 3 1 yv ns.length (intsV (ns.map natI)) ∧ wr.heap[w.heap.size]? = some (.cells #[.slice ba p.bounds.length bc, .slice ra p.rules.length rc] 25 (0, 0)) ∧ Below w.heap.size w wr) (fun _ i _ => (intOf i + 1).toNat)
          case atStart => exact ⟨p.rules.length, allN p, rfl, by rw [HAL.out]; exact Nat.le_refl _, by rw [HAL.out]; exact Nat.le_refl _, HALT.out, rfl, HOW.out, K0.out, HB.out⟩
          case round =>
            clear K0 HB HOW HAL HALT
            obtain ⟨m, ns, rfl, hm, hnl, hnlt, hcr, hown, k0, hb⟩ := hrel
            have hml : (ns.map natI).length = ns.length := by simp
            have hint : Ints wr wr.heap.size u5 (ns.map natI) := ownsRow_ints hown (by omega) hml
            rcases m with _ | m
            · have hres : coreR p = (ns, 0) := by
                rw [HRES.out, ← hcr]; rfl
              have HR2 := Lib.hid hres; have HI := Lib.hid hint; have HB := Lib.hid hb
              clear hres hint hown k0 hb hcr hnlt
              go_wp2
              go_ret2
              exact ⟨_, by rw [HR2.out]; rfl, by rw [HR2.out]; exact HI.out, HB.out⟩
            · rw [show (((m + 1 : Nat) : Int) - 1) = (m : Int) by omega]
              rw [← hml] at hown
              obtain ⟨xa, xc, rfl⟩ : ∃ a c, u5 = .slice a ns.length c := by rw [← hml]; exact hint.slice
              have hrw : Row wr wr.heap.size 1 (.slice xa ns.length xc) ns.length (fun i => .int .i64 (iget (ns.map natI) i)) := by have := hint; unfold Ints at this; rwa [hml] at this
              have HIN := Lib.hid hint; have K0 := Lib.hid k0; have HB := Lib.hid hb; have HOWN := Lib.hid hown; have HNLT := Lib.hid hnlt; have HCR := Lib.hid hcr; have HML := Lib.hid hml
              clear hint k0 hb hown hnlt hcr hml
              obtain ⟨wo2, rfl⟩ : ∃ wo2 : World, wo2 = wr := ⟨_, rfl⟩
              obtain ⟨_, a', cap', hae, hnc, hcm, hrow⟩ := hrw
              cases hae
              obtain ⟨xb, xo, rfl, hxb, hxcell⟩ := hrow (by omega)
              have hcm : xc ≤ 9223372036854775807 := by unfold maxLen at hcm; omega
              clear hrow hxcell
              have hqc : m ≤ xc := by omega
              have hqn : m + 1 ≤ ns.length := by omega
              obtain ⟨ad, had⟩ : ∃ ad : Option Addr, ad = if xc = m + 1 then some ⟨xb, xo, none⟩ else some ⟨xb, xo + (m + 1), none⟩ := ⟨_, rfl⟩
              have HROW : Hid (Row wo2 wo2.heap.size 1 (.slice ad (ns.length - (m + 1)) (xc - (m + 1))) (ns.length - (m + 1)) (fun i => .int .i64 (iget ((ns.map natI).drop (m + 1)) i))) := Lib.hid (by
                rw [had]
                by_cases hx : xc = m + 1
                · rw [if_pos hx, show ns.length - (m + 1) = 0 by omega]
                  exact ⟨Nat.zero_le _, _, _, rfl, Nat.zero_le _, by unfold maxLen; omega, fun h => absurd h (Nat.lt_irrefl _)⟩
                · rw [if_neg hx]; exact ints_drop HIN.out hqn hx)
              have htkl : ((ns.map natI).take m).length = m := by simp; omega
              have hdpl : ((ns.map natI).drop (m + 1)).length = ns.length - (m + 1) := by simp
              have HTK : Hid (Row wo2 wo2.heap.size 1 (.slice (some ⟨xb, xo, none⟩) m xc) m (fun i => .int .i64 (iget ((ns.map natI).take m) i))) := Lib.hid (by have := HIN.out.take (k := m) (by rw [HML.out]; omega); unfold Ints at this; rwa [htkl] at this)
              have HTL := Lib.hid htkl; have HDL := Lib.hid hdpl
              have HAD := Lib.hid had
              clear htkl hdpl had
              go_wp2_with fail
              refine wp_region_held_drew (S := TwoLow w wo2) (by kernel_rfl) ⟨Below.drewn HB.out, Below.drewn (Below.refl _ _)⟩ (fun hHeld => ?_)
              change wpAnyH _ _ coreAOps _ _ _ _ _ _
              refine abs_anyHS (fun _ => True) trivial hHeld ?_
              clear hHeld
              rintro V - hHeld
              have h2 : (m : Int) + 1 ≤ ((ns.length : Nat) : Int) := by omega
              have h3 : (0 : Int) ≤ (m : Int) + 1 := by omega
              have h4 : ((m : Int) + 1).toNat = m + 1 := by omega
              have h5 : IntKind.i64.wrap ((m : Int) + 1) = (m : Int) + 1 := IntWalk.i64_in _ (by omega)
              refine wpAnyH_take (i := 0) (oi := { dst := some 38, op := Op.move (Operand.tmp 5), type := 46, pos := "ref.go:358", after := #[], guard := none }) (v := ?_) rfl (by kernel_rfl) (by kernel_rfl) (by kernel_rfl) (fun _ _ _ h => h) (Or.inl ⟨by kernel_rfl, ?_⟩) hHeld ?_
              rotate_left
              · intro w hSw
                clear hSw
                go_simp
                try with_reducible rfl
              try simp only [Act.put, List.setIfInBounds_toArray, List.set_cons_zero, List.set_cons_succ]
              refine wpAnyH_take (i := 1) (oi := { dst := some 39, op := Op.move (Operand.tmp 7), type := 3, pos := "ref.go:358", after := #[], guard := none }) (v := ?_) rfl (by kernel_rfl) (by kernel_rfl) (by kernel_rfl) (fun _ _ _ h => h) (Or.inl ⟨by kernel_rfl, ?_⟩) hHeld ?_
              rotate_left
              · intro w hSw
                clear hSw
                go_simp
                try with_reducible rfl
              try simp only [Act.put, List.setIfInBounds_toArray, List.set_cons_zero, List.set_cons_succ]
              refine wpAnyH_take (i := 2) (oi := { dst := some 40, op := Op.slice 46 (Operand.tmp 38) none (some (Operand.tmp 39)) none, type := 46, pos := "ref.go:358", after := #[{ on := 0, ground := Ground.data }, { on := 1, ground := Ground.data }], guard := none }) (v := ?_) rfl (by kernel_rfl) (by kernel_rfl) (by kernel_rfl) (fun _ _ _ h => h) (Or.inl ⟨by kernel_rfl, ?_⟩) hHeld ?_
              rotate_left
              · intro w hSw
                clear hSw
                go_simp
                try with_reducible rfl
              try simp only [Act.put, List.setIfInBounds_toArray, List.set_cons_zero, List.set_cons_succ]
              refine wpAnyH_take (i := 4) (oi := { dst := some 42, op := Op.move (Operand.tmp 5), type := 46, pos := "ref.go:358", after := #[], guard := none }) (v := ?_) rfl (by kernel_rfl) (by kernel_rfl) (by kernel_rfl) (fun _ _ _ h => h) (Or.inl ⟨by kernel_rfl, ?_⟩) hHeld ?_
              rotate_left
              · intro w hSw
                clear hSw
                go_simp
                try with_reducible rfl
              try simp only [Act.put, List.setIfInBounds_toArray, List.set_cons_zero, List.set_cons_succ]
              refine wpAnyH_take (i := 5) (oi := { dst := some 43, op := Op.move (Operand.tmp 7), type := 3, pos := "ref.go:358", after := #[], guard := none }) (v := ?_) rfl (by kernel_rfl) (by kernel_rfl) (by kernel_rfl) (fun _ _ _ h => h) (Or.inl ⟨by kernel_rfl, ?_⟩) hHeld ?_
              rotate_left
              · intro w hSw
                clear hSw
                go_simp
                try with_reducible rfl
              try simp only [Act.put, List.setIfInBounds_toArray, List.set_cons_zero, List.set_cons_succ]
              refine wpAnyH_take (i := 6) (oi := { dst := some 44, op := Op.binOp BinOp.add 3 (Operand.tmp 43) (Operand.const (Value.int IntKind.i64 1)) 3, type := 3, pos := "ref.go:358", after := #[{ on := 5, ground := Ground.data }], guard := none }) (v := ?_) rfl (by kernel_rfl) (by kernel_rfl) (by kernel_rfl) (fun _ _ _ h => h) (Or.inl ⟨by kernel_rfl, ?_⟩) hHeld ?_
              rotate_left
              · intro w hSw
                clear hSw
                go_simp
                try with_reducible rfl
              try simp only [Act.put, List.setIfInBounds_toArray, List.set_cons_zero, List.set_cons_succ]
              refine wpAnyH_take (i := 7) (oi := { dst := some 45, op := Op.slice 46 (Operand.tmp 42) (some (Operand.tmp 44)) none none, type := 46, pos := "ref.go:358", after := #[{ on := 4, ground := Ground.data }, { on := 6, ground := Ground.data }], guard := none }) (v := ?_) rfl (by kernel_rfl) (by kernel_rfl) (by kernel_rfl) (fun _ _ _ h => h) (Or.inl ⟨by kernel_rfl, ?_⟩) hHeld ?_
              rotate_left
              · intro w hSw
                clear hSw
                go_simp
                try with_reducible rfl
              try simp only [Act.put, List.setIfInBounds_toArray, List.set_cons_zero, List.set_cons_succ]
              clear h2 h3 h4 h5
              rw [← HAD.out]
              have hs02 : w.heap.size ≤ wo2.heap.size := HB.out.size
              refine wpAnyH_ready (rs := [3]) (by kernel_rfl) (by simp) ?_
              refine AllReadyH.cons (o := { dst := some 41, op := Op.call { callee := Callee.builtin Builtin.append, args := #[Operand.const (Value.slice none 0 0), Operand.tmp 40], argTypes := #[46, 46] }, type := 46, pos := "ref.go:358", after := #[{ on := 2, ground := Ground.data }], guard := none }) rfl (fun K hK => ?_) AllReadyH.nil
              rw [if_pos (by rfl)]
              refine wp_append_row _ _ 46 rfl wo2.heap.size 3 i0 (.int .i64 0) 1 8 Tryd.underlying46 hin hz0 hz1 hz2 rfl (by decide) (.slice none 0 0) 0 [] rfl (World.ownsRow_nil _ _ _ _) (.slice (some ⟨xb, xo, none⟩) m xc) m _ wo2.heap.size rfl (HTK.out.below hHeld.low1 (Nat.le_refl _)) (intsV ((ns.map natI).take m)) (by rw [intsV_length, HTL.out, Nat.mul_one]) (fun j hj => ints_get _ j (by rw [HTL.out]; omega)) (ints_one _) (by unfold maxLen; omega) (by omega) hHeld.low1.size ?_
              intro v1 V1 hown1 hgrow1 _
              have hs1 := hHeld.grown hs02 hgrow1 (fun q hq => by simp [Value.ownBlock] at hq)
              simp only [Nat.zero_add, List.nil_append] at hown1
              have HO1 := Lib.hid hown1
              clear hown1 hgrow1
              refine hK.out _ _ (hs1) (fun hHeld => ?_)
              clear hK K
              try simp only [Act.put, List.setIfInBounds_toArray, List.set_cons_zero, List.set_cons_succ]
              clear hs1
              refine wpAnyH_ready (rs := [8]) (by kernel_rfl) (by simp) ?_
              refine AllReadyH.cons (o := { dst := some 46, op := Op.call { callee := Callee.builtin Builtin.append, args := #[Operand.tmp 41, Operand.tmp 45], argTypes := #[46, 46] }, type := 46, pos := "ref.go:358", after := #[{ on := 3, ground := Ground.data }, { on := 7, ground := Ground.data }, { on := 3, ground := Ground.chain }], guard := none }) rfl (fun K hK => ?_) AllReadyH.nil
              rw [if_pos (by rfl)]
              refine wp_append_row _ _ 46 rfl wo2.heap.size 3 i0 (.int .i64 0) 1 8 Tryd.underlying46 hin hz0 hz1 hz2 rfl (by decide) v1 m (intsV ((ns.map natI).take m)) rfl HO1.out (.slice ad (ns.length - (m + 1)) (xc - (m + 1))) (ns.length - (m + 1)) _ wo2.heap.size rfl (HROW.out.below hHeld.low1 (Nat.le_refl _)) (intsV ((ns.map natI).drop (m + 1))) (by rw [intsV_length, HDL.out, Nat.mul_one]) (fun j hj => ints_get _ j (by rw [HDL.out]; omega)) (ints_one _) (by unfold maxLen; omega) (by omega) hHeld.low1.size ?_
              intro v2 Vq hown2 hgrow2 _
              have hs2 := hHeld.grown hs02 hgrow2 (fun q hq => (HO1.out.lt q hq).1)
              rw [intsV_append, ← List.eraseIdx_eq_take_drop_succ, natI_erase] at hown2
              obtain ⟨fs, hfs⟩ : ∃ fs, fs = ns.eraseIdx m := ⟨_, rfl⟩
              have hfl : fs.length = m + (ns.length - (m + 1)) := by rw [hfs, List.length_eraseIdx_of_lt (by omega)]; omega
              have hflt : ∀ n ∈ fs, n < p.rules.length := fun n hn => HNLT.out n (by rw [hfs] at hn; exact List.mem_of_mem_eraseIdx hn)
              rw [← hfs, ← hfl] at hown2
              have hfm : (fs.map natI).length = fs.length := by simp
              have hin2 : Ints Vq Vq.heap.size v2 (fs.map natI) := ownsRow_ints hown2 (by omega) hfm
              obtain ⟨fa, fc, rfl⟩ := own_form hown2
              have HIN2 := Lib.hid hin2; have HOW2 := Lib.hid (own_mono hown2 (show w.heap.size + 1 ≤ wo2.heap.size by have := (Array.getElem?_eq_some_iff.1 K0.out).1; omega))
              have HFS := Lib.hid hfs; have HFLT := Lib.hid hflt; have HFM := Lib.hid hfm; have HFL := Lib.hid hfl
              have hf12 : fs.length ≤ 12 := by omega
              clear hown2 hgrow2 HO1 hin2 hfs hflt hfm hfl
              refine hK.out _ _ (hs2) (fun hHeld => ?_)
              clear hK K
              try simp only [Act.put, List.setIfInBounds_toArray, List.set_cons_zero, List.set_cons_succ]
              clear hs2
              refine wpAnyH_take (i := 9) (oi := { dst := some 8, op := Op.assign (Operand.tmp 46), type := 46, pos := "ref.go:358", after := #[{ on := 8, ground := Ground.data }, { on := 8, ground := Ground.chain }, { on := 0, ground := Ground.phase }, { on := 1, ground := Ground.phase }, { on := 2, ground := Ground.phase }, { on := 3, ground := Ground.phase }, { on := 4, ground := Ground.phase }, { on := 5, ground := Ground.phase }, { on := 6, ground := Ground.phase }, { on := 7, ground := Ground.phase }, { on := 8, ground := Ground.phase }], guard := none }) (v := ?_) rfl (by kernel_rfl) (by kernel_rfl) (by kernel_rfl) (fun _ _ _ h => h) (Or.inl ⟨by kernel_rfl, ?_⟩) hHeld ?_
              rotate_left
              · intro w hSw
                clear hSw
                go_simp
                try with_reducible rfl
              try simp only [Act.put, List.setIfInBounds_toArray, List.set_cons_zero, List.set_cons_succ]
              refine wpAnyH_done (by kernel_rfl) ?_ _
              have k2 := heap_later K0.out hHeld.low1 (Array.getElem?_eq_some_iff.1 K0.out).1
              have hcore := own_ck HOWN.out (CK.below hHeld.low1)
              have K2 := Lib.hid k2; have HBQ := Lib.hid hHeld.low; have HCORE := Lib.hid hcore
              have y0 : w.heap.size < Vq.heap.size := (Array.getElem?_eq_some_iff.1 k2).1
              have c0 : Vq.cell? ⟨w.heap.size, 0, none⟩ = some (.slice ba p.bounds.length bc) := by rw [cell_of_row _ _ _ _ _ _ k2]; rfl
              clear hHeld k2 hcore HTL HDL HAD HROW HTK HIN HOWN HB K0 hqc hqn hcm hnc hxb
              go_upto_region 16 with fail
              refine abs_wp (fun Z => Z.heap[Vq.heap.size]? = some (.cells #[.slice ba p.bounds.length bc, .slice none 0 0] 25 (0, 0)) ∧ Below Vq.heap.size Vq Z) ⟨heap_new0 _ _, Below.new1 _ _⟩ ?_
              clear c0
              rintro W0 ⟨kq, hbq⟩
              have KQ := Lib.hid kq; have HB0 := Lib.hid hbq
              clear kq hbq
              go_wp2_with fail
              go_loopw [10] (fun i wr => ∃ (k : Nat) (qv : Value), k ≤ fs.length ∧ i = .int .i64 k ∧ wr.heap[Vq.heap.size]? = some (.cells #[.slice ba p.bounds.length bc, qv] 25 (0, 0)) ∧ ROwn wr B (Vq.heap.size + 1) qv ((fs.take k).map (rget p.rules)) ∧ Below Vq.heap.size Vq wr) (fun i _ => fs.length - (intOf i).toNat)
              case atStart => exact ⟨0, _, Nat.zero_le _, rfl, KQ.out, ROwn.nil _ _ _, HB0.out⟩
              case round =>
                clear KQ HB0
                obtain ⟨k, qv, hk, rfl, kq, hro, hb⟩ := hrel
                have zq : Vq.heap.size < wr.heap.size := (Array.getElem?_eq_some_iff.1 kq).1
                by_cases hlt : k < fs.length
                · obtain ⟨_, a', c', hae, _, _, hrow⟩ := HIN2.out
                  have hfm := HFM.out
                  obtain ⟨b, off, hna, hbB, hcell⟩ := hrow (by omega)
                  subst hna
                  simp only [Value.slice.injEq] at hae
                  obtain ⟨rfl, -, -⟩ := hae
                  have e0 : wr.cell? ⟨b, off + k, none⟩ = some (.int .i64 ((fs[k] : Nat) : Int)) := by
                    rw [hb.cell (p := ⟨b, off + k, none⟩) hbB, hcell k (by omega)]
                    simp [iget, hlt, natI]
                  have hnk := HFLT.out fs[k] (List.getElem_mem hlt)
                  have hts := pick_take_succ p fs k hlt
                  obtain ⟨n, hnn⟩ : ∃ n, n = fs[k] := ⟨_, rfl⟩
                  rw [← hnn] at e0 hnk hts
                  have hbw := HBQ.out.trans (hb.mono HBQ.out.size)
                  obtain ⟨rb, ro, vv, hra, hrb, hvv, q0, q1, q2, q3⟩ := (HRV.out.below hbw hB).cells hnk
                  subst hra
                  obtain ⟨va, vc, rfl⟩ := hvv.slice
                  have p1 : wr.cell? ⟨w.heap.size, 1, none⟩ = some (.slice (some ⟨rb, ro, none⟩) p.rules.length rc) := by rw [hb.cell (p := ⟨w.heap.size, 1, none⟩) y0, cell_of_row _ _ _ _ _ _ K2.out]; rfl
                  have KQ := Lib.hid kq; have HRO := Lib.hid hro; have HB := Lib.hid hb; have HVV := Lib.hid hvv; have HTS := Lib.hid hts
                  have hrq : rb < Vq.heap.size := by omega
                  have zb : b < Vq.heap.size := hbB
                  clear hcell kq hro hb hvv hts hnn hbw hrow hfm
                  go_wp2_with fail
                  refine wp_region_held_drew (S := HeldC w.heap.size (.slice (some ⟨rb, ro, none⟩) p.rules.length rc) b (off + k) n rb ro (rget p.rules n) (.slice va (rget p.rules n).vars.length vc)) (by kernel_rfl) (HeldC.low ⟨p1, e0, q0, q1, q2, q3⟩ (Below.drewn (Below.refl wr.heap.size wr)) (by omega) (by omega) (by omega)) (fun hHeld => ?_)
                  change wpAnyH _ _ coreBOps _ _ _ _ _ _
                  refine abs_anyHS (fun Z => Z.heap[Vq.heap.size]? = some (.cells #[.slice ba p.bounds.length bc, qv] 25 (0, 0)) ∧ ROwn Z B (Vq.heap.size + 1) qv ((fs.take k).map (rget p.rules)) ∧ Below Vq.heap.size Vq Z ∧ Ints Z B (.slice va (rget p.rules n).vars.length vc) (rget p.rules n).vars)
                    ⟨KQ.out, HRO.out.ck (CK.below (Below.drewn (Below.refl _ _))), Below.drewn HB.out, HVV.out.ck (CK.below (Below.drewn (Below.refl _ _)))⟩ hHeld ?_
                  clear hHeld KQ HRO HB p1 e0 q0 q1 q2 q3 HVV zq
                  rintro V ⟨kv1, ⟨cs, hc0, hcr⟩, hbv2, hvw⟩ hHeld
                  obtain ⟨j0, jin, jz0, jz1, jz2⟩ := info_parts Tryd.info63
                  have zV1 : Vq.heap.size < V.heap.size := (Array.getElem?_eq_some_iff.1 kv1).1
                  have x1v : V.cell? ⟨Vq.heap.size, 1, none⟩ = some qv := by rw [cell_of_row _ _ _ _ _ _ kv1]; rfl
                  have HSV := Lib.hid hHeld
                  have KV1 := Lib.hid kv1; have HBV2 := Lib.hid hbv2; have HVW := Lib.hid hvw
                  clear kv1 hbv2 hvw
                  refine wpAnyH_take (i := 0) (oi := { dst := some 56, op := Op.fieldAddr 25 (Operand.tmp 9) 1, type := 0, pos := "ref.go:361", after := #[], guard := none }) (v := ?_) rfl (by kernel_rfl) (by kernel_rfl) (by kernel_rfl) (fun _ _ _ h => h) (Or.inl ⟨by kernel_rfl, ?_⟩) hHeld ?_
                  rotate_left
                  · intro w hSw
                    obtain ⟨hs0, hs1, hs2, hs3, hs4, hs5⟩ := hSw
                    go_simp
                    try with_reducible rfl
                  try simp only [Act.put, List.setIfInBounds_toArray, List.set_cons_zero, List.set_cons_succ]
                  refine wpAnyH_take (i := 2) (oi := { dst := some 58, op := Op.fieldAddr 25 (Operand.tmp 1) 1, type := 0, pos := "ref.go:361", after := #[], guard := none }) (v := ?_) rfl (by kernel_rfl) (by kernel_rfl) (by kernel_rfl) (fun _ _ _ h => h) (Or.inl ⟨by kernel_rfl, ?_⟩) hHeld ?_
                  rotate_left
                  · intro w hSw
                    obtain ⟨hs0, hs1, hs2, hs3, hs4, hs5⟩ := hSw
                    go_simp
                    try with_reducible rfl
                  try simp only [Act.put, List.setIfInBounds_toArray, List.set_cons_zero, List.set_cons_succ]
                  refine wpAnyH_take (i := 3) (oi := { dst := some 59, op := Op.load 23 (Operand.tmp 58), type := 23, pos := "ref.go:361", after := #[{ on := 2, ground := Ground.data }], guard := none }) (v := ?_) rfl (by kernel_rfl) (by kernel_rfl) (by kernel_rfl) (fun _ _ _ h => h) (Or.inl ⟨by kernel_rfl, ?_⟩) hHeld ?_
                  rotate_left
                  · intro w hSw
                    obtain ⟨hs0, hs1, hs2, hs3, hs4, hs5⟩ := hSw
                    go_simp
                    try with_reducible rfl
                  try simp only [Act.put, List.setIfInBounds_toArray, List.set_cons_zero, List.set_cons_succ]
                  refine wpAnyH_take (i := 4) (oi := { dst := some 60, op := Op.move (Operand.tmp 8), type := 46, pos := "ref.go:361", after := #[], guard := none }) (v := ?_) rfl (by kernel_rfl) (by kernel_rfl) (by kernel_rfl) (fun _ _ _ h => h) (Or.inl ⟨by kernel_rfl, ?_⟩) hHeld ?_
                  rotate_left
                  · intro w hSw
                    obtain ⟨hs0, hs1, hs2, hs3, hs4, hs5⟩ := hSw
                    go_simp
                    try with_reducible rfl
                  try simp only [Act.put, List.setIfInBounds_toArray, List.set_cons_zero, List.set_cons_succ]
                  refine wpAnyH_take (i := 5) (oi := { dst := some 61, op := Op.move (Operand.tmp 10), type := 3, pos := "ref.go:361", after := #[], guard := none }) (v := ?_) rfl (by kernel_rfl) (by kernel_rfl) (by kernel_rfl) (fun _ _ _ h => h) (Or.inl ⟨by kernel_rfl, ?_⟩) hHeld ?_
                  rotate_left
                  · intro w hSw
                    obtain ⟨hs0, hs1, hs2, hs3, hs4, hs5⟩ := hSw
                    go_simp
                    try with_reducible rfl
                  try simp only [Act.put, List.setIfInBounds_toArray, List.set_cons_zero, List.set_cons_succ]
                  refine wpAnyH_take (i := 6) (oi := { dst := some 62, op := Op.indexAddr 46 (Operand.tmp 60) (Operand.tmp 61), type := 0, pos := "ref.go:361", after := #[{ on := 4, ground := Ground.data }, { on := 5, ground := Ground.data }], guard := none }) (v := ?_) rfl (by kernel_rfl) (by kernel_rfl) (by kernel_rfl) (fun _ _ _ h => h) (Or.inl ⟨by kernel_rfl, ?_⟩) hHeld ?_
                  rotate_left
                  · intro w hSw
                    obtain ⟨hs0, hs1, hs2, hs3, hs4, hs5⟩ := hSw
                    go_simp
                    try with_reducible rfl
                  try simp only [Act.put, List.setIfInBounds_toArray, List.set_cons_zero, List.set_cons_succ]
                  refine wpAnyH_take (i := 7) (oi := { dst := some 63, op := Op.load 3 (Operand.tmp 62), type := 3, pos := "ref.go:361", after := #[{ on := 6, ground := Ground.data }], guard := none }) (v := ?_) rfl (by kernel_rfl) (by kernel_rfl) (by kernel_rfl) (fun _ _ _ h => h) (Or.inl ⟨by kernel_rfl, ?_⟩) hHeld ?_
                  rotate_left
                  · intro w hSw
                    obtain ⟨hs0, hs1, hs2, hs3, hs4, hs5⟩ := hSw
                    go_simp
                    try with_reducible rfl
                  try simp only [Act.put, List.setIfInBounds_toArray, List.set_cons_zero, List.set_cons_succ]
                  refine wpAnyH_take (i := 8) (oi := { dst := some 64, op := Op.indexAddr 23 (Operand.tmp 59) (Operand.tmp 63), type := 0, pos := "ref.go:361", after := #[{ on := 3, ground := Ground.data }, { on := 7, ground := Ground.data }], guard := none }) (v := ?_) rfl (by kernel_rfl) (by kernel_rfl) (by kernel_rfl) (fun _ _ _ h => h) (Or.inl ⟨by kernel_rfl, ?_⟩) hHeld ?_
                  rotate_left
                  · intro w hSw
                    obtain ⟨hs0, hs1, hs2, hs3, hs4, hs5⟩ := hSw
                    go_simp
                    try with_reducible rfl
                  try simp only [Act.put, List.setIfInBounds_toArray, List.set_cons_zero, List.set_cons_succ]
                  refine wpAnyH_take (i := 9) (oi := { dst := some 65, op := Op.load 63 (Operand.tmp 64), type := 63, pos := "ref.go:361", after := #[{ on := 8, ground := Ground.data }], guard := none }) (v := ?_) rfl (by kernel_rfl) (by kernel_rfl) (by kernel_rfl) (fun _ _ _ h => h) (Or.inl ⟨by kernel_rfl, ?_⟩) hHeld ?_
                  rotate_left
                  · intro w hSw
                    obtain ⟨hs0, hs1, hs2, hs3, hs4, hs5⟩ := hSw
                    go_simp
                    try with_reducible rfl
                  try simp only [Act.put, List.setIfInBounds_toArray, List.set_cons_zero, List.set_cons_succ]
                  refine wpAnyH_ready (rs := [1, 10]) (by kernel_rfl) (by simp) ?_
                  refine AllReadyH.cons (o := { dst := some 57, op := Op.load 23 (Operand.tmp 56), type := 23, pos := "ref.go:361", after := #[{ on := 0, ground := Ground.data }], guard := none }) rfl (fun K hK => ?_) (AllReadyH.cons (o := { dst := some 66, op := Op.buildSlice 23 1 #[(0, Operand.tmp 65)], type := 23, pos := "ref.go:361", after := #[{ on := 9, ground := Ground.data }], guard := none }) rfl (fun K hK => ?_) AllReadyH.nil)
                  · go_simp
                    refine hK.out _ _ (hHeld) (fun hHeld => ?_)
                    clear hK K
                    try simp only [Act.put, List.setIfInBounds_toArray, List.set_cons_zero, List.set_cons_succ]
                    clear x1v
                    refine wpAnyH_ready (rs := [10]) (by kernel_rfl) (by simp) ?_
                    refine AllReadyH.cons (o := { dst := some 66, op := Op.buildSlice 23 1 #[(0, Operand.tmp 65)], type := 23, pos := "ref.go:361", after := #[{ on := 9, ground := Ground.data }], guard := none }) rfl (fun K hK => ?_) AllReadyH.nil
                    go_simp
                    refine hK.out _ _ (HSV.out.low (Below.new1 V _) (by omega) (by omega) (by omega)) (fun hHeld => ?_)
                    clear hK K
                    try simp only [Act.put, List.setIfInBounds_toArray, List.set_cons_zero, List.set_cons_succ]
                    refine abs_anyH (fun Z => Below V.heap.size V Z ∧ Z.heap[V.heap.size]? = some (.cells #[.int .i64 (rget p.rules n).kind, .slice va (rget p.rules n).vars.length vc, .int .i64 (rget p.rules n).low, .int .i64 (rget p.rules n).high] 63 (0, 0))) ⟨Below.new1 _ _, heap_new0 _ _⟩ ?_
                    rintro X1 ⟨hbx, kx⟩
                    have KX := Lib.hid kx; have HBX := Lib.hid hbx
                    clear hbx kx
                    refine wpAnyH_ready (rs := [11]) (by kernel_rfl) (by simp) ?_
                    refine AllReadyH.cons (o := { dst := some 67, op := Op.call { callee := Callee.builtin Builtin.append, args := #[Operand.tmp 57, Operand.tmp 66], argTypes := #[23, 23] }, type := 23, pos := "ref.go:361", after := #[{ on := 1, ground := Ground.data }, { on := 10, ground := Ground.data }], guard := none }) rfl (fun K hK => ?_) AllReadyH.nil
                    rw [if_pos (by rfl)]
                    have hcs1 := own_ck hc0 (CK.below HBX.out)
                    have hlen : ((fs.take k).map (rget p.rules)).length ≤ 12 := by simp; omega
                    refine wp_append_own X1 _ _ 23 rfl (Vq.heap.size + 1) 63 j0 _ 4 48 Tryd.underlying23 jin jz0 jz1 jz2 rfl (by decide) qv ((fs.take k).map (rget p.rules)).length cs rfl hcs1 ⟨V.heap.size, 0, none⟩ 1 1 [.int .i64 (rget p.rules n).kind, .slice va (rget p.rules n).vars.length vc, .int .i64 (rget p.rules n).low, .int .i64 (rget p.rules n).high] rfl rfl ?_ ?_ (by unfold maxLen; omega) (by omega) (by have := HBX.out.size; omega) ?_
                    · intro q u hq
                      rw [Addr.add_lit, Nat.zero_add, cell_of_row _ _ _ _ _ _ KX.out, List.getElem?_toArray]; exact hq
                    · intro u hu
                      simp only [List.mem_cons, List.not_mem_nil, or_false] at hu
                      rcases hu with rfl | rfl | rfl | rfl <;> rfl
                    intro v' X2 hown2 hgrow2 _
                    have hlowX : Below (Vq.heap.size + 1) V X2 := (HBX.out.mono (by omega)).trans ((Below.refl (Vq.heap.size + 1) X1).grown hgrow2 (by have := HBX.out.size; omega) (fun q hq => (hcs1.lt q hq).1))
                    have hro2 : ROwn X2 B (Vq.heap.size + 1) v' ((fs.take (k + 1)).map (rget p.rules)) := by
                      rw [HTS.out]
                      refine ROwn.appended hcs1 ((Below.refl (Vq.heap.size + 1) X1).grown hgrow2 (by have := HBX.out.size; omega) (fun q hq => (hcs1.lt q hq).1) |>.mono (by omega)) (fun i hi => ?_) (HVW.out.ck (CK.below HBX.out)) hown2
                      obtain ⟨e1, e2, e3, yv, e4, e5⟩ := hcr i hi
                      exact ⟨e1, e2, e3, yv, e4, e5.ck (CK.below HBX.out)⟩
                    have hs2 := HSV.out.low hlowX (by omega) (by omega) (by omega)
                    have HS2 := Lib.hid hs2
                    refine hK.out _ _ (hs2) (fun hHeld => ?_)
                    clear hK K
                    try simp only [Act.put, List.setIfInBounds_toArray, List.set_cons_zero, List.set_cons_succ]
                    clear hs2
                    have k12 := heap_later KV1.out hlowX (by omega)
                    have hb2 := HBV2.out.trans (hlowX.mono (by omega))
                    have hlen2 : ((fs.take k).map (rget p.rules)).length = k := by simp; omega
                    rw [hlen2] at hown2
                    obtain ⟨g5, cp, rfl⟩ := Slice.own_succ hown2
                    have x1 : X2.cell? ⟨Vq.heap.size, 1, none⟩ = some qv := by rw [cell_of_row _ _ _ _ _ _ k12]; rfl
                    have x1f : X2.frozen? ⟨Vq.heap.size, 1, none⟩ = false := by simp [World.frozen?, k12]
                    have K12 := Lib.hid k12; have HB2 := Lib.hid hb2; have HRO2 := Lib.hid hro2; have HLX := Lib.hid hlowX
                    clear hown2 hgrow2 hcs1 hro2 k12 hb2 hlowX
                    refine wpAnyH_ready (rs := [12]) (by kernel_rfl) (by simp) ?_
                    refine AllReadyH.cons (o := { dst := some 68, op := Op.fieldAddr 25 (Operand.tmp 9) 1, type := 0, pos := "ref.go:361", after := #[{ on := 0, ground := Ground.phase }, { on := 1, ground := Ground.phase }, { on := 2, ground := Ground.phase }, { on := 3, ground := Ground.phase }, { on := 4, ground := Ground.phase }, { on := 5, ground := Ground.phase }, { on := 6, ground := Ground.phase }, { on := 7, ground := Ground.phase }, { on := 8, ground := Ground.phase }, { on := 9, ground := Ground.phase }, { on := 10, ground := Ground.phase }, { on := 11, ground := Ground.phase }], guard := none }) rfl (fun K hK => ?_) AllReadyH.nil
                    go_simp
                    refine hK.out _ _ (HS2.out) (fun hHeld => ?_)
                    clear hK K
                    try simp only [Act.put, List.setIfInBounds_toArray, List.set_cons_zero, List.set_cons_succ]
                    refine wpAnyH_ready (rs := [13]) (by kernel_rfl) (by simp) ?_
                    refine AllReadyH.cons (o := { dst := none, op := Op.store 23 (Operand.tmp 68) (Operand.tmp 67), type := 0, pos := "ref.go:361", after := #[{ on := 12, ground := Ground.data }, { on := 11, ground := Ground.data }, { on := 11, ground := Ground.chain }, { on := 0, ground := Ground.phase }, { on := 1, ground := Ground.phase }, { on := 2, ground := Ground.phase }, { on := 3, ground := Ground.phase }, { on := 4, ground := Ground.phase }, { on := 5, ground := Ground.phase }, { on := 6, ground := Ground.phase }, { on := 7, ground := Ground.phase }, { on := 8, ground := Ground.phase }, { on := 9, ground := Ground.phase }, { on := 10, ground := Ground.phase }, { on := 11, ground := Ground.phase }], guard := none }) rfl (fun K hK => ?_) AllReadyH.nil
                    go_simp
                    refine hK.out _ _ (HS2.out.set (by omega) (by omega) (by omega)) (fun hHeld => ?_)
                    clear hK K
                    try simp only [Act.put, List.setIfInBounds_toArray, List.set_cons_zero, List.set_cons_succ]
                    clear x1 x1f hHeld
                    refine wpAnyH_done (by kernel_rfl) ?_ _
                    have hfin : ∃ qv, (X2.setCell ⟨Vq.heap.size, 1, none⟩ (.slice (some ⟨g5, 0, none⟩) (k + 1) cp)).heap[Vq.heap.size]? = some (.cells #[.slice ba p.bounds.length bc, qv] 25 (0, 0)) ∧
                        ROwn (X2.setCell ⟨Vq.heap.size, 1, none⟩ (.slice (some ⟨g5, 0, none⟩) (k + 1) cp)) B (Vq.heap.size + 1) qv ((fs.take (k + 1)).map (rget p.rules)) ∧ Below Vq.heap.size Vq (X2.setCell ⟨Vq.heap.size, 1, none⟩ (.slice (some ⟨g5, 0, none⟩) (k + 1) cp)) :=
                      ⟨_, set_row K12.out, HRO2.out.setCell (by omega) (by omega), HB2.out.setCell (Nat.le_refl _) _⟩
                    refine abs_post (fun Z => ∃ qv, Z.heap[Vq.heap.size]? = some (.cells #[.slice ba p.bounds.length bc, qv] 25 (0, 0)) ∧ ROwn Z B (Vq.heap.size + 1) qv ((fs.take (k + 1)).map (rget p.rules)) ∧ Below Vq.heap.size Vq Z) hfin ?_
                    clear hfin K12 HB2 HRO2 HLX HS2 HSV
                    rintro Z ⟨qv2, k1, hro, hb⟩
                    have K1 := Lib.hid k1; have HRO := Lib.hid hro; have HB := Lib.hid hb
                    clear k1 hro hb
                    go_wp2
                    go_roundw
                    case rel => exact ⟨k + 1, qv2, by omega, by go_num, K1.out, HRO.out, HB.out⟩
                    case measure => simp [intOf]; omega
                  · go_simp
                    refine hK.out _ _ (HSV.out.low (Below.new1 V _) (by omega) (by omega) (by omega)) (fun hHeld => ?_)
                    clear hK K
                    try simp only [Act.put, List.setIfInBounds_toArray, List.set_cons_zero, List.set_cons_succ]
                    refine abs_anyH (fun Z => Below V.heap.size V Z ∧ Z.heap[V.heap.size]? = some (.cells #[.int .i64 (rget p.rules n).kind, .slice va (rget p.rules n).vars.length vc, .int .i64 (rget p.rules n).low, .int .i64 (rget p.rules n).high] 63 (0, 0))) ⟨Below.new1 _ _, heap_new0 _ _⟩ ?_
                    rintro X1 ⟨hbx, kx⟩
                    have KX := Lib.hid kx; have HBX := Lib.hid hbx
                    clear hbx kx
                    have x1b := (HBX.out.cell (p := ⟨Vq.heap.size, 1, none⟩) zV1).trans x1v
                    refine wpAnyH_ready (rs := [1]) (by kernel_rfl) (by simp) ?_
                    refine AllReadyH.cons (o := { dst := some 57, op := Op.load 23 (Operand.tmp 56), type := 23, pos := "ref.go:361", after := #[{ on := 0, ground := Ground.data }], guard := none }) rfl (fun K hK => ?_) AllReadyH.nil
                    go_simp
                    refine hK.out _ _ (HSV.out.low HBX.out (by omega) (by omega) (by omega)) (fun hHeld => ?_)
                    clear hK K
                    try simp only [Act.put, List.setIfInBounds_toArray, List.set_cons_zero, List.set_cons_succ]
                    clear x1v x1b
                    refine wpAnyH_ready (rs := [11]) (by kernel_rfl) (by simp) ?_
                    refine AllReadyH.cons (o := { dst := some 67, op := Op.call { callee := Callee.builtin Builtin.append, args := #[Operand.tmp 57, Operand.tmp 66], argTypes := #[23, 23] }, type := 23, pos := "ref.go:361", after := #[{ on := 1, ground := Ground.data }, { on := 10, ground := Ground.data }], guard := none }) rfl (fun K hK => ?_) AllReadyH.nil
                    rw [if_pos (by rfl)]
                    have hcs1 := own_ck hc0 (CK.below HBX.out)
                    have hlen : ((fs.take k).map (rget p.rules)).length ≤ 12 := by simp; omega
                    refine wp_append_own X1 _ _ 23 rfl (Vq.heap.size + 1) 63 j0 _ 4 48 Tryd.underlying23 jin jz0 jz1 jz2 rfl (by decide) qv ((fs.take k).map (rget p.rules)).length cs rfl hcs1 ⟨V.heap.size, 0, none⟩ 1 1 [.int .i64 (rget p.rules n).kind, .slice va (rget p.rules n).vars.length vc, .int .i64 (rget p.rules n).low, .int .i64 (rget p.rules n).high] rfl rfl ?_ ?_ (by unfold maxLen; omega) (by omega) (by have := HBX.out.size; omega) ?_
                    · intro q u hq
                      rw [Addr.add_lit, Nat.zero_add, cell_of_row _ _ _ _ _ _ KX.out, List.getElem?_toArray]; exact hq
                    · intro u hu
                      simp only [List.mem_cons, List.not_mem_nil, or_false] at hu
                      rcases hu with rfl | rfl | rfl | rfl <;> rfl
                    intro v' X2 hown2 hgrow2 _
                    have hlowX : Below (Vq.heap.size + 1) V X2 := (HBX.out.mono (by omega)).trans ((Below.refl (Vq.heap.size + 1) X1).grown hgrow2 (by have := HBX.out.size; omega) (fun q hq => (hcs1.lt q hq).1))
                    have hro2 : ROwn X2 B (Vq.heap.size + 1) v' ((fs.take (k + 1)).map (rget p.rules)) := by
                      rw [HTS.out]
                      refine ROwn.appended hcs1 ((Below.refl (Vq.heap.size + 1) X1).grown hgrow2 (by have := HBX.out.size; omega) (fun q hq => (hcs1.lt q hq).1) |>.mono (by omega)) (fun i hi => ?_) (HVW.out.ck (CK.below HBX.out)) hown2
                      obtain ⟨e1, e2, e3, yv, e4, e5⟩ := hcr i hi
                      exact ⟨e1, e2, e3, yv, e4, e5.ck (CK.below HBX.out)⟩
                    have hs2 := HSV.out.low hlowX (by omega) (by omega) (by omega)
                    have HS2 := Lib.hid hs2
                    refine hK.out _ _ (hs2) (fun hHeld => ?_)
                    clear hK K
                    try simp only [Act.put, List.setIfInBounds_toArray, List.set_cons_zero, List.set_cons_succ]
                    clear hs2
                    have k12 := heap_later KV1.out hlowX (by omega)
                    have hb2 := HBV2.out.trans (hlowX.mono (by omega))
                    have hlen2 : ((fs.take k).map (rget p.rules)).length = k := by simp; omega
                    rw [hlen2] at hown2
                    obtain ⟨g5, cp, rfl⟩ := Slice.own_succ hown2
                    have x1 : X2.cell? ⟨Vq.heap.size, 1, none⟩ = some qv := by rw [cell_of_row _ _ _ _ _ _ k12]; rfl
                    have x1f : X2.frozen? ⟨Vq.heap.size, 1, none⟩ = false := by simp [World.frozen?, k12]
                    have K12 := Lib.hid k12; have HB2 := Lib.hid hb2; have HRO2 := Lib.hid hro2; have HLX := Lib.hid hlowX
                    clear hown2 hgrow2 hcs1 hro2 k12 hb2 hlowX
                    refine wpAnyH_ready (rs := [12]) (by kernel_rfl) (by simp) ?_
                    refine AllReadyH.cons (o := { dst := some 68, op := Op.fieldAddr 25 (Operand.tmp 9) 1, type := 0, pos := "ref.go:361", after := #[{ on := 0, ground := Ground.phase }, { on := 1, ground := Ground.phase }, { on := 2, ground := Ground.phase }, { on := 3, ground := Ground.phase }, { on := 4, ground := Ground.phase }, { on := 5, ground := Ground.phase }, { on := 6, ground := Ground.phase }, { on := 7, ground := Ground.phase }, { on := 8, ground := Ground.phase }, { on := 9, ground := Ground.phase }, { on := 10, ground := Ground.phase }, { on := 11, ground := Ground.phase }], guard := none }) rfl (fun K hK => ?_) AllReadyH.nil
                    go_simp
                    refine hK.out _ _ (HS2.out) (fun hHeld => ?_)
                    clear hK K
                    try simp only [Act.put, List.setIfInBounds_toArray, List.set_cons_zero, List.set_cons_succ]
                    refine wpAnyH_ready (rs := [13]) (by kernel_rfl) (by simp) ?_
                    refine AllReadyH.cons (o := { dst := none, op := Op.store 23 (Operand.tmp 68) (Operand.tmp 67), type := 0, pos := "ref.go:361", after := #[{ on := 12, ground := Ground.data }, { on := 11, ground := Ground.data }, { on := 11, ground := Ground.chain }, { on := 0, ground := Ground.phase }, { on := 1, ground := Ground.phase }, { on := 2, ground := Ground.phase }, { on := 3, ground := Ground.phase }, { on := 4, ground := Ground.phase }, { on := 5, ground := Ground.phase }, { on := 6, ground := Ground.phase }, { on := 7, ground := Ground.phase }, { on := 8, ground := Ground.phase }, { on := 9, ground := Ground.phase }, { on := 10, ground := Ground.phase }, { on := 11, ground := Ground.phase }], guard := none }) rfl (fun K hK => ?_) AllReadyH.nil
                    go_simp
                    refine hK.out _ _ (HS2.out.set (by omega) (by omega) (by omega)) (fun hHeld => ?_)
                    clear hK K
                    try simp only [Act.put, List.setIfInBounds_toArray, List.set_cons_zero, List.set_cons_succ]
                    clear x1 x1f hHeld
                    refine wpAnyH_done (by kernel_rfl) ?_ _
                    have hfin : ∃ qv, (X2.setCell ⟨Vq.heap.size, 1, none⟩ (.slice (some ⟨g5, 0, none⟩) (k + 1) cp)).heap[Vq.heap.size]? = some (.cells #[.slice ba p.bounds.length bc, qv] 25 (0, 0)) ∧
                        ROwn (X2.setCell ⟨Vq.heap.size, 1, none⟩ (.slice (some ⟨g5, 0, none⟩) (k + 1) cp)) B (Vq.heap.size + 1) qv ((fs.take (k + 1)).map (rget p.rules)) ∧ Below Vq.heap.size Vq (X2.setCell ⟨Vq.heap.size, 1, none⟩ (.slice (some ⟨g5, 0, none⟩) (k + 1) cp)) :=
                      ⟨_, set_row K12.out, HRO2.out.setCell (by omega) (by omega), HB2.out.setCell (Nat.le_refl _) _⟩
                    refine abs_post (fun Z => ∃ qv, Z.heap[Vq.heap.size]? = some (.cells #[.slice ba p.bounds.length bc, qv] 25 (0, 0)) ∧ ROwn Z B (Vq.heap.size + 1) qv ((fs.take (k + 1)).map (rget p.rules)) ∧ Below Vq.heap.size Vq Z) hfin ?_
                    clear hfin K12 HB2 HRO2 HLX HS2 HSV
                    rintro Z ⟨qv2, k1, hro, hb⟩
                    have K1 := Lib.hid k1; have HRO := Lib.hid hro; have HB := Lib.hid hb
                    clear k1 hro hb
                    go_wp2
                    go_roundw
                    case rel => exact ⟨k + 1, qv2, by omega, by go_num, K1.out, HRO.out, HB.out⟩
                    case measure => simp [intOf]; omega
                · have hk2 : k = fs.length := by omega
                  subst hk2
                  rw [List.take_length] at hro
                  have hpk := pick_ok HPO.out hf12 HFLT.out
                  obtain ⟨qa, qn, qc, rfl⟩ : ∃ a n c, qv = .slice a n c := by
                    obtain ⟨cs, hc, _⟩ := hro
                    obtain ⟨a, c, h⟩ := own_form hc
                    exact ⟨_, _, _, h⟩
                  have hbz := hb.size
                  have hq : Rls wr wr.heap.size (.slice qa qn qc) (pick p fs).rules := hro.rls (by omega) (by simp; omega) rfl
                  have hbw := HBQ.out.trans (hb.mono HBQ.out.size)
                  have hbq : Bnds wr wr.heap.size (.slice ba p.bounds.length bc) (pick p fs).bounds := (HBV.out.below hbw hB).mono (by have := hbw.size; omega)
                  have c0 : wr.cell? ⟨Vq.heap.size, 0, none⟩ = some (.slice ba p.bounds.length bc) := by rw [cell_of_row _ _ _ _ _ _ kq]; rfl
                  have c1 : wr.cell? ⟨Vq.heap.size, 1, none⟩ = some (.slice qa qn qc) := by rw [cell_of_row _ _ _ _ _ _ kq]; rfl
                  have HSO := Lib.hid (refSolve_any (pick p fs) hpk 1 (by decide) _ _ wr hbq hq (Nat.le_refl _))
                  have HB := Lib.hid hb
                  clear kq hro hb hq hbq hpk hbw hbz
                  go_wp2_with fail
                  refine HSO.out.mono ?_
                  rintro e w4 ⟨sv, rfl, hso, hb4⟩
                  obtain ⟨s4, hs4⟩ : ∃ s, s = noneR p fs := ⟨_, rfl⟩
                  rw [show searchR (pick p fs) 1 = s4 from hs4.symm] at hso ⊢
                  obtain ⟨s4a, s4c, rfl⟩ : ∃ a c, sv = .slice a s4.sols.length c := by obtain ⟨cs0, hc0, _⟩ := hso; exact own_form hc0
                  have hb5 := HB.out.trans ((hb4.trans ((Below.new1 w4 (.cells #[.slice s4a s4.sols.length s4c, .int .i64 (s4.nodes : Nat), .bool s4.opn] 50)).mono hb4.size)).mono HB.out.size)
                  have HB5 := Lib.hid hb5; have HS4 := Lib.hid hs4
                  clear hso hb4 hb5 hs4 c0 c1 zq HSO HB
                  have HCR2 := HCR.out
                  rw [coreRed_succ, ← HFS.out, ← HS4.out] at HCR2
                  have HCN := Lib.hid HCR2
                  clear HCR2
                  cases ho : s4.opn
                  case true =>
                    have hres : coreR p = ([], 8) := by
                      have h1 := HCN.out
                      rw [ho, if_pos rfl] at h1
                      rw [HRES.out, ← h1]
                    have HR2 := Lib.hid hres
                    rw [ho] at HB5
                    clear hres ho
                    go_wp2
                    go_ret2
                    exact ⟨_, by rw [HR2.out]; rfl, by rw [HR2.out]; exact Ints.nil _ _, HBQ.out.trans (HB5.out.mono HBQ.out.size)⟩
                  case false =>
                    rw [ho] at HB5
                    have K5 := Lib.hid (heap_later K2.out HB5.out y0)
                    by_cases hz : s4.sols.length = 0
                    · have hcr3 : coreRed p m fs = coreRed p p.rules.length (allN p) := by
                        have h1 := HCN.out
                        have h2 : noneB p fs = true := by unfold noneB; rw [← HS4.out, ho, hz]; rfl
                        rw [ho, if_neg (by decide), h2, if_pos rfl] at h1
                        exact h1
                      have HCR3 := Lib.hid hcr3
                      have HOW5 := Lib.hid (own_ck HOW2.out (CK.below HB5.out))
                      have HBF := Lib.hid (HBQ.out.trans (HB5.out.mono HBQ.out.size))
                      have e1 : (((s4.sols.length : Nat) : Int) == 0) = true := by rw [hz]; rfl
                      clear hcr3 ho hz
                      go_wp2
                      go_roundw
                      case rel => exact ⟨m, fs, by go_num, by have := HFL.out; omega, by have := HFL.out; omega, HFLT.out, HCR3.out, HOW5.out, K5.out, HBF.out⟩
                      case measure => simp [intOf]
                    · have hcr3 : coreRed p m ns = coreRed p p.rules.length (allN p) := by
                        have h1 := HCN.out
                        have h2 : noneB p fs = false := by unfold noneB; rw [← HS4.out, ho]; simp [hz]
                        rw [ho, if_neg (by decide), h2, if_neg (by decide)] at h1
                        exact h1
                      have HCR3 := Lib.hid hcr3
                      have HOW5 := Lib.hid (own_ck HCORE.out (CK.below HB5.out))
                      have HBF := Lib.hid (HBQ.out.trans (HB5.out.mono HBQ.out.size))
                      have e1 : (((s4.sols.length : Nat) : Int) == 0) = false := by rw [beq_eq_false_iff_ne]; omega
                      clear hcr3 ho hz
                      go_wp2
                      go_roundw
                      case rel => exact ⟨m, ns, by go_num, by omega, by omega, HNLT.out, HCR3.out, by have := HOW5.out; rwa [HML.out] at this, K5.out, HBF.out⟩
                      case measure => simp [intOf]
    · have hres : coreR p = ([], 5) := by
        unfold coreR noneB
        rw [HPO.out, HS.out, ho]
        simp [hz]
      have HRES := Lib.hid hres
      have hz2 : (0 : Int) < ((s.sols.length : Nat) : Int) := by omega
      clear hres ho K3 hz
      go_wp2
      go_ret2
      exact ⟨_, by rw [HRES.out]; rfl, by rw [HRES.out]; exact Ints.nil _ _, HB3.out⟩
end Go.Proofs.YtilbbnjfaoldoaaDoor
