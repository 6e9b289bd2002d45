/- The laws' own chosen, where the function it calls says yes to all ways. -/
import Derived.Test.YtdmmegmkdhinjaaGreatDoorPlainK
import Derived.Test.YtdmmegmkdhinjaaGreatDoorBK
import Derived.ArgAppend
namespace Go.Proofs.YtdmmegmkdhinjaaGreatDoor
open Go Go.RowKit
attribute [local go_sem] cell_grow u64_sAnd u64_sOr u64_sDiff sDiff_all zeqI zneI sAnd_bit_zero sAnd_bit_zeroN sAnd_bit_nonzero

theorem wpList_wanted {P : Program} {ops : Array Oper} {rest : List Oper} {o : Oper} {a : Act} {w : World} {Q : Exit → Act → World → Prop} (hw : Region.wanted o (yielded ops a.tmps) = true)
    (h : ∀ K : Act → World → Prop, (∀ a w, wpList P ops Q rest a w → K a w) → o.wp P a w K Q) : wpList P ops Q (o :: rest) a w :=
  wpList_step fun K hK => by rw [if_pos hw]; exact h K hK
theorem wpList_runW {P : Program} {w : World} {ops : Array Oper} {rest : List Oper} {o : Oper} {a : Act} {Q : Exit → Act → World → Prop} (hw : Region.wanted o (yielded ops a.tmps) = true) (s x : Operand) (t : TypeId)
    (hop : o.op = Op.call { callee := Callee.builtin Builtin.append, args := #[s, x], argTypes := #[t, t] }) (sv xv : Value) (hs : a.eval s = sv) (hx : a.eval x = xv) (v' : Value) (w' : World)
    (hrun : (Builtin.append_ #[t, t] o.type #[sv, xv]).run P w = .ok v' w') (hK : wpList P ops Q rest (a.put o.dst v') w') : wpList P ops Q (o :: rest) a w := by
  refine wpList_wanted hw fun K hK' => ?_
  unfold Oper.wp
  simp [execOp, hop, resolve, invoke, builtin, hs, hx, hrun, Result.andThen]
  exact hK' _ _ hK
/-- One number more behind a full slice, whatever its address: a new row. -/
theorem run_append_new (w : World) (la : Option Addr) (n B lc b : Nat) (v : Int) (olds : List Int) (hol : olds.length = n) (hn : n ≤ 1000) (hrow : Ints w B (.slice la n lc) olds) (hb : w.heap[b]? = some (.cells #[.int .i64 v] 3 (0, 0))) :
    ∃ v' w', ((Builtin.append_ #[39, 39] 39 #[.slice la n n, .slice (some ⟨b, 0, none⟩) 1 1]).run Tryz.prog w = .ok v' w') ∧ w'.ownsRow w.heap.size 3 1 v' (n + 1) (intsV (olds ++ [v])) ∧ w.grownBy w' none := by
  obtain ⟨i0, hin, hz0, hz1, hz2⟩ := info_parts info3
  have hnews : ∀ j u, ([.int .i64 v] : List Value)[j]? = some u → w.cell? ((⟨b, 0, none⟩ : Addr).add j) = some u := fun j u hj => by
    match j, hj with
    | 0, hj => cases hj; rw [Addr.add_lit, Nat.zero_add, cell_of_row _ _ _ _ _ _ hb]; rfl
  have h1c : ∀ u ∈ ([.int .i64 v] : List Value), u.oneCell' = true := fun u hu => by rw [List.mem_singleton.1 hu]; rfl
  obtain ⟨_, a', c', hae, _, _, hr⟩ := hrow
  rw [hol] at hae
  cases hae
  have hap : intsV (olds ++ [v]) = intsV olds ++ [.int .i64 v] := by rw [← intsV_append]; rfl
  rw [hap]
  cases la with
  | some ad =>
    have holds : ∀ j u, (intsV olds)[j]? = some u → w.cell? (ad.add j) = some u := fun j u hj => by
      have hjl : j < n := by
        have := (List.getElem?_eq_some_iff.1 hj).1
        rw [intsV_length, hol] at this; exact this
      rw [intsV_row olds j (by omega)] at hj
      obtain ⟨g, off, he, _, hc⟩ := hr (by omega)
      cases he
      rw [Addr.add_lit, hc j (by omega)]; exact hj
    obtain ⟨v', w', h1, h2, h3⟩ := run_append_arg_grows (P := Tryz.prog) w 39 39 3 i0 (.int .i64 0) 1 8 Tryz.underlying39 hin hz0 hz1 hz2 rfl (by decide) ad n n (intsV olds) (by rw [intsV_length, hol]; omega) holds ⟨b, 0, none⟩ 1 1 [.int .i64 v] rfl hnews (by omega) (by unfold maxLen; omega) (by omega)
    exact ⟨v', w', h1, h2, h3⟩
  | none =>
    have hn0 : n = 0 := by
      rcases Nat.eq_zero_or_pos n with h | h
      · exact h
      · obtain ⟨g, off, h2, _⟩ := hr (by omega)
        cases h2
    subst hn0
    obtain rfl : olds = [] := List.eq_nil_of_length_eq_zero hol
    obtain ⟨v', w', h1, h2, h3, _⟩ := run_append_own (P := Tryz.prog) w w.heap.size 39 39 3 i0 (.int .i64 0) 1 8 Tryz.underlying39 hin hz0 hz1 hz2 rfl (by decide) (.slice none 0 0) 0 [] (World.ownsRow_nil w _ _ 1) ⟨b, 0, none⟩ 1 1 [.int .i64 v] rfl hnews h1c (by unfold maxLen; omega) (by omega) (Nat.le_refl _)
    exact ⟨v', w', h1, h2, h3⟩
set_option maxRecDepth 100000 in
set_option maxHeartbeats 2000000 in
theorem chosen_all (ds : List Nat) (hd : ∀ i, nget ds i < 65536) (h8 : ds.length ≤ 8) (g : FuncId) (caps : Array Value) (dv : Value) (w0 : World) {B : Nat} (hdv : Us w0 B dv ds) (hB : B ≤ w0.heap.size)
    (hg : ∀ args w, (callFunc g args).run Tryz.prog w = .ok (.enter g args) w)
    (hy : ∀ vs, InD ds vs → ∀ W lv, Below w0.heap.size w0 W → Ints W W.heap.size lv (vs.map natI) → Gives Tryz.prog g (#[lv] ++ caps) W (.bool true)) :
    ∀ (k : Nat) (vs : List Nat), vs.length + k = ds.length → (∀ j, j < vs.length → (nget ds j).testBit (nget vs j) = true) → ∀ W lv, Below w0.heap.size w0 W → Ints W W.heap.size lv (vs.map natI) →
      Gives Tryz.prog 29 #[dv, lv, .func (.func g) #[] caps] W (.bool true) := by
  intro k
  induction k with
  | zero =>
    intro vs hl hp W lv hb hlv
    have HY := Lib.hid (hy vs ⟨by omega, fun j hj => hp j (by omega)⟩ W lv hb hlv)
    obtain ⟨da, dc, rfl⟩ := hdv.slice
    obtain ⟨la, lc, rfl⟩ := hlv.slice
    have hl2 : (vs.map natI).length = ds.length := by rw [List.length_map]; omega
    rw [hl2] at HY ⊢
    clear hdv hlv hy
    unfold Gives at HY ⊢
    go_enter Tryz.func29, Tryz.ntmps29
    go_wp2_with fail
    refine HY.mono ?_
    rintro e w2 ⟨rfl, hb2⟩
    have HB2 := Lib.hid hb2
    clear hb2 HY
    go_wp2
    go_ret
    exact ⟨rfl, HB2.out⟩
  | succ k ih =>
    intro vs hl hp W lv hb hlv
    have HIH := Lib.hid ih; have HP := Lib.hid hp; have HB := Lib.hid hb; have HLV := Lib.hid hlv; have HDV := Lib.hid hdv
    obtain ⟨da, dc, rfl⟩ := hdv.slice
    obtain ⟨la, lc, rfl⟩ := hlv.slice
    have hml : (vs.map natI).length = vs.length := List.length_map _
    rw [hml] at HLV ⊢
    have hlt : vs.length < ds.length := by omega
    have hlc : vs.length ≤ lc := by
      obtain ⟨_, a, c, he, hc, _⟩ := HLV.out
      rw [hml] at he hc
      cases he; exact hc
    have hne : ¬ (vs.length : Int) = (ds.length : Int) := by omega
    have hbe : ((vs.length : Int) == (ds.length : Int)) = false := by simp; omega
    have hbn : (vs.length == ds.length) = false := by simp; omega
    have hnn : ¬ vs.length = ds.length := by omega
    obtain ⟨i0, hin, hz0, hz1, hz2⟩ := info_parts info3
    clear hdv hlv hy ih hp hb
    unfold Gives
    go_enter Tryz.func29, Tryz.ntmps29
    go_wp2_with fail
    clear hne hbe hbn hnn
    go_loopw [16] (fun kv wr => ∃ v : Nat, v ≤ 16 ∧ kv = .int .i64 v ∧ Below W.heap.size W wr) (fun kv _ => 16 - (intOf kv).toNat)
    case atStart => exact ⟨0, by omega, rfl, Below.refl _ _⟩
    case round =>
      obtain ⟨v, hv, rfl, hb⟩ := hrel
      have HBW := Lib.hid hb
      by_cases hlv : v < 16
      · have hlv' : (v : Int) < 16 := by omega
        obtain ⟨_, a', c', hae, _, _, hrow⟩ := HDV.out.below (HB.out.trans (hb.mono HB.out.size)) hB
        cases hae
        obtain ⟨xb, xo, rfl, hxb, hxc⟩ := hrow (by omega)
        have g0 : wr.cell? ⟨xb, xo + vs.length, none⟩ = some (.int .u64 (nget ds vs.length : Nat)) := hxc _ (by omega)
        have zxb : xb < wr.heap.size := by have := HB.out.size; have := hb.size; omega
        have hux : U64 (nget ds vs.length) := Nat.lt_trans (hd _) (by decide)
        clear hrow hxc hb
        go_wp2_with fail
        refine (refHas_any (nget ds vs.length) (v : Int) wr hux).mono ?_
        rintro e w10 ⟨rfl, hw10⟩
        rw [hw10, hasD_ltN hlv]
        clear hw10 g0 zxb
        cases hbit : (nget ds vs.length).testBit v
        case false =>
          go_wp2_with fail
          go_roundw
          case rel => exact ⟨v + 1, by omega, by go_num, HBW.out⟩
          case measure => simp [intOf]; omega
        case true =>
          have hHv := HLV.out.below HBW.out (Nat.le_refl _)
          have HNW := Lib.hid (Below.new1 wr (.cells #[.int .i64 v] 3))
          obtain ⟨v', w3, hrun, hown3, hgrow3⟩ := run_append_new (wr.alloc (.cells #[.int .i64 v] 3)) la vs.length W.heap.size lc wr.heap.size v (vs.map natI) hml (by omega) (hHv.below HNW.out HBW.out.size) (heap_new0 _ _)
          have HRUN := Lib.hid hrun
          have hb3 : Below W.heap.size W w3 := (HBW.out.trans (HNW.out.mono HBW.out.size)).grown hgrow3 (by have := HBW.out.size; simp; omega) (fun q hq => by cases hq)
          have hmap : vs.map natI ++ [(v : Int)] = (vs ++ [v]).map natI := by rw [List.map_append]; rfl
          rw [hmap] at hown3
          have hml3 : ((vs ++ [v]).map natI).length = vs.length + 1 := by rw [List.length_map, List.length_append]; rfl
          have hI3 := ownsRow_ints hown3 (by omega) hml3
          have hc3 := HIH.out (vs ++ [v]) (by rw [List.length_append]; simp; omega) (fun j hj => by
            rw [List.length_append] at hj
            by_cases hjl : j < vs.length
            · have e : nget (vs ++ [v]) j = nget vs j := by unfold nget; rw [List.getElem?_append_left hjl]
              rw [e]; exact HP.out j hjl
            · have hje : j = vs.length := by simp at hj; omega
              subst hje
              have e : nget (vs ++ [v]) vs.length = v := by unfold nget; rw [List.getElem?_append_right (Nat.le_refl _), Nat.sub_self]; rfl
              rw [e]; exact hbit) w3 v' (HB.out.trans (hb3.mono HB.out.size)) hI3
          have HC3 := Lib.hid hc3; have HB3 := Lib.hid hb3
          clear hHv hrun hgrow3 hb3 hmap hml3 hI3 hown3 hc3 hbit
          go_wp2_with (at_builtin; refine wpList_runW (by first | rfl | simp [Region.wanted, yielded]) _ _ _ rfl _ _ rfl rfl _ _ HRUN.out ?_)
          refine HC3.out.mono ?_
          rintro e w4 ⟨rfl, hb4⟩
          have HB4 := Lib.hid (HB3.out.trans (hb4.mono HB3.out.size))
          clear hb4 HC3 HRUN
          go_wp2_with fail
          go_roundw
          case rel => exact ⟨v + 1, by omega, by go_num, HB4.out⟩
          case measure => simp [intOf]; omega
      · go_wp2
        go_ret
        exact ⟨rfl, HBW.out⟩
end Go.Proofs.YtdmmegmkdhinjaaGreatDoor
