/- Package domain: Best. -/
import Derived.Test.YtdmmegmkdhinjaaGreatDoorBJ
import Derived.Lib.SliceRun
namespace Go.Proofs.YtdmmegmkdhinjaaGreatDoor
open Go Go.RowKit
attribute [local go_sem] cell_grow u64_sAnd u64_sOr u64_sDiff sDiff_all zeqI zneI sAnd_bit_zero sAnd_bit_zeroN sAnd_bit_nonzero

theorem eql_nil (a : Option Addr) (n c : Nat) (w : World) : (binOp .eql 39 (.slice a n c) (.slice none 0 0)).run Tryz.prog w = .ok (.bool a.isNone) w := Lib.run_eql_slice_nil w _ _ a n c 0 0 Tryz.underlying39
attribute [local go_sem] eql_nil
/-- The best solution so far, in the cell that holds it. -/
def BOut (n base : Nat) (sv : Value) (w : World) : Option (List Int) → Prop
  | none => sv = .slice none 0 0
  | some o => o.length = n ∧ w.ownsRow base 3 1 sv n (intsV o)
def BestInv (n v qo qm base : Nat) (_ : Nat) (out : Option (List Int)) (w : World) : Prop :=
  (∃ sv, w.heap[qo]? = some (.cells #[sv] 39 (0, 0)) ∧ BOut n base sv w out) ∧ w.heap[qm]? = some (.cells #[.int .i64 (v : Nat)] 3 (0, 0))
theorem BOut.typed {n base : Nat} {sv : Value} {w w' : World} {out : Option (List Int)} (h : BOut n base sv w out) (hc : ∀ (k : Nat) (c : Array Value), w.heap[k]? = some (Obj.cells c 3 (0, 0)) → w'.heap[k]? = some (Obj.cells c 3 (0, 0))) : BOut n base sv w' out := by
  cases out with
  | none => exact h
  | some o => exact ⟨h.1, own_type h.2 hc⟩
set_option maxRecDepth 100000 in
set_option maxHeartbeats 1000000 in
theorem best1_any (n v qo qm base m : Nat) (hn : 0 < n) (hn8 : n ≤ 1000) (hvn : v < n) (out : Option (List Int)) (l : List Int) (hln : l.length = n) (lv : Value) (w : World) (b : Nat) (hi : BestInv n v qo qm base m out w) (hbb : base ≤ b) (hl : w.ownsRow b 3 1 lv l.length (intsV l)) (_ : base ≤ w.heap.size) :
    Calls Tryz.prog 58 #[lv, .pointer (some ⟨qo, 0, none⟩), .pointer (some ⟨qm, 0, none⟩)] w fun e w' => e = .returned (.bool (bestF v out l).1) ∧ BestInv n v qo qm base (m + 1) (bestF v out l).2 w' ∧ KeptT 39 (One qo) base w w' := by
  obtain ⟨⟨sv, ho, hb⟩, hq⟩ := hi
  have zo : qo < w.heap.size := (Array.getElem?_eq_some_iff.1 ho).1
  have zm : qm < w.heap.size := (Array.getElem?_eq_some_iff.1 hq).1
  have hne : qo ≠ qm := ne_of_types ho hq (by decide)
  have hl2 := own_mono hl hbb
  rw [hln] at hl2
  obtain ⟨g, cp, cur, rfl, hgb, hg, -, -, -⟩ := own_some hl2 (by omega)
  have m0 : w.cell? ⟨qm, 0, none⟩ = some (.int .i64 (v : Nat)) := by rw [cell_of_row _ _ _ _ _ _ hq]; rfl
  have l0 : w.cell? ⟨g, v, none⟩ = some (.int .i64 (iget l v)) := by rw [hl2.cellAt v (by omega)]; exact ints_get _ _ (by omega)
  have zg : g < w.heap.size := (Array.getElem?_eq_some_iff.1 hg).1
  have o0f : w.frozen? ⟨qo, 0, none⟩ = false := by simp [World.frozen?, ho]
  have hvI : ((v : Nat) : Int) < ((n : Nat) : Int) := by omega
  have HFIN : Hid (∀ (W : World), Below w.heap.size w W → BestInv n v qo qm base (m + 1) (some l) (W.setCell ⟨qo, 0, none⟩ (.slice (some ⟨g, 0, none⟩) n cp)) ∧ KeptT 39 (One qo) base w (W.setCell ⟨qo, 0, none⟩ (.slice (some ⟨g, 0, none⟩) n cp))) := Lib.hid fun W hW => by
    have ho' := heap_later ho hW zo
    have hq' := heap_later hq hW zm
    refine ⟨⟨⟨_, set_row ho', hln, ?_⟩, (Below.heap_setCell _ _ _ _ (Ne.symm hne)).trans hq'⟩, (KeptT.of_below (T := 39) (E := One qo) (base := base) hW).setCell (p := ⟨qo, 0, none⟩) (show One qo qo from rfl) _⟩
    exact own_setF (own_ck hl2 (CK.below hW)) ho' (by decide)
  have HKEEP : Hid (∀ (W : World), Below w.heap.size w W → BestInv n v qo qm base (m + 1) out W ∧ KeptT 39 (One qo) base w W) := Lib.hid fun W hW =>
    ⟨⟨⟨sv, heap_later ho hW zo, hb.typed fun k c e => heap_later e hW (Array.getElem?_eq_some_iff.1 e).1⟩, heap_later hq hW zm⟩, KeptT.of_below hW⟩
  have HO := Lib.hid ho
  cases out with
  | none =>
    obtain rfl : sv = .slice none 0 0 := hb
    have o0 : w.cell? ⟨qo, 0, none⟩ = some (.slice none 0 0) := by rw [cell_of_row _ _ _ _ _ _ ho]; rfl
    clear ho hq hl hl2 hg HKEEP
    go_enter Tryz.func58, Tryz.ntmps58
    go_wp2_with fail
    refine wp_region_qb (by kernel_rfl) (by kernel_rfl) ?_
    repeat go_big_quiet_step (fail)
    refine wpQuiet_nil ?_
    intro w2 hb2
    have o2 : w2.cell? ⟨qo, 0, none⟩ = some (.slice none 0 0) := (hb2.cell (p := ⟨qo, 0, none⟩) zo).trans o0
    have f2 : w2.frozen? ⟨qo, 0, none⟩ = false := (hb2.frozen (p := ⟨qo, 0, none⟩) zo).trans o0f
    have HF := Lib.hid (HFIN.out w2 hb2)
    clear hb2 HFIN
    go_wp2
    go_ret
    exact ⟨rfl, HF.out.1, HF.out.2⟩
  | some o =>
    obtain ⟨hol, hob⟩ := hb
    obtain ⟨g', cp', cur', rfl, _, hg', -, -, -⟩ := own_some hob (by omega)
    have o0 : w.cell? ⟨qo, 0, none⟩ = some (.slice (some ⟨g', 0, none⟩) n cp') := by rw [cell_of_row _ _ _ _ _ _ ho]; rfl
    have l1 : w.cell? ⟨g', v, none⟩ = some (.int .i64 (iget o v)) := by rw [hob.cellAt v (by omega)]; exact ints_get _ _ (by omega)
    have zg' : g' < w.heap.size := (Array.getElem?_eq_some_iff.1 hg').1
    have HOL := Lib.hid hol
    have HB : Hid ((bestF v (some o) l).2 = if iget l v < iget o v then some l else some o) := Lib.hid rfl
    have HB1 : Hid ((bestF v (some o) l).1 = true) := Lib.hid rfl
    obtain ⟨x, hx⟩ : ∃ x, x = iget l v := ⟨_, rfl⟩
    obtain ⟨y, hy⟩ : ∃ y, y = iget o v := ⟨_, rfl⟩
    rw [← hx] at l0 HB
    rw [← hy] at l1 HB
    clear ho hob hq hl hl2 hg hol hg' hx hy
    by_cases hxy : x < y
    · have HB2 : Hid ((bestF v (some o) l).2 = some l) := Lib.hid (by rw [HB.out, if_pos hxy])
      clear HKEEP
      go_enter Tryz.func58, Tryz.ntmps58
      go_wp2_with fail
      refine wp_region_qb (by kernel_rfl) (by kernel_rfl) ?_
      repeat go_big_quiet_step (fail)
      refine wpQuiet_nil ?_
      intro w2 hb2
      have o2 : w2.cell? ⟨qo, 0, none⟩ = some (.slice (some ⟨g', 0, none⟩) n cp') := (hb2.cell (p := ⟨qo, 0, none⟩) zo).trans o0
      have f2 : w2.frozen? ⟨qo, 0, none⟩ = false := (hb2.frozen (p := ⟨qo, 0, none⟩) zo).trans o0f
      have HF := Lib.hid (HFIN.out w2 hb2)
      clear hb2 HFIN
      go_wp2
      go_ret
      exact ⟨by rw [HB1.out]; rfl, by rw [HB2.out]; exact HF.out.1, HF.out.2⟩
    · have HB2 : Hid ((bestF v (some o) l).2 = some o) := Lib.hid (by rw [HB.out, if_neg hxy])
      have hxD : decide (x < y) = false := decide_eq_false hxy
      clear HFIN hxy
      go_enter Tryz.func58, Tryz.ntmps58
      go_wp2_with fail
      refine wp_region_qb (by kernel_rfl) (by kernel_rfl) ?_
      repeat go_big_quiet_step (fail)
      refine wpQuiet_nil ?_
      intro w2 hb2
      have HF := Lib.hid (HKEEP.out w2 hb2)
      clear hb2 HKEEP
      go_wp2
      go_ret
      exact ⟨by rw [HB1.out]; rfl, by rw [HB2.out]; exact HF.out.1, HF.out.2⟩
theorem best_told (n v qo qm base : Nat) (hn : 0 < n) (hn8 : n ≤ 1000) (hvn : v < n) : Told n qo qm base 58 (bestF v) (BestInv n v qo qm base) :=
  ⟨enters_of Tryz.func58 (by kernel_rfl) rfl, fun _ _ _ h => h,
    fun _ _ _ _ ⟨⟨sv, h2, h3⟩, h4⟩ hc => ⟨⟨sv, hc _ _ _ (by decide) (by decide) (by decide) h2, h3.typed fun k c e => hc k c _ (by decide) (by decide) (by decide) e⟩, hc _ _ _ (by decide) (by decide) (by decide) h4⟩,
    fun _ _ _ ⟨⟨_, h2, _⟩, _⟩ => (Array.getElem?_eq_some_iff.1 h2).1, fun m g w l lv b _ hi hbb hl hln hb => best1_any n v qo qm base m hn hn8 hvn g l hln lv w b hi hbb hl hb⟩
def besS (p : Dp) (v : Nat) : Sx (Option (List Int)) := searchD p (bestF v) none
def besE (p : Dp) (v : Int) : Int := if probD p && inB v 0 ((p.doms.length : Int) - 1) then (if (besS p v.toNat).opn then 8 else match (besS p v.toNat).got with | none => 5 | some _ => 0) else 2
def besL (p : Dp) (v : Int) : List Int := if besE p v = 0 then (besS p v.toNat).got.getD [] else []
def BestP (p : Dp) (v : Int) (w : World) (e : Ending) (w' : World) : Prop := ∃ lv, e = .returned (.tuple #[lv, .int .i64 (besE p v)]) ∧ w'.ownsRow w.heap.size 3 1 lv (besL p v).length (intsV (besL p v)) ∧ Below w.heap.size w w'
theorem BestP.bad {p : Dp} {v : Int} {w w' : World} {c : Int} (h : besE p v = c) (hc : c ≠ 0) (hb : Below w.heap.size w w') : BestP p v w (.returned (.tuple #[.slice none 0 0, .int .i64 c])) w' := by
  have h2 : besL p v = [] := by unfold besL; rw [if_neg (by omega)]
  exact ⟨_, by rw [h], by rw [h2]; exact World.ownsRow_nil _ _ _ _, hb⟩
set_option maxRecDepth 100000 in
set_option maxHeartbeats 4000000 in
theorem best_any (p : Dp) (v : Int) (dv rv : Value) (w : World) {B : Nat} (hdv : Us w B dv p.doms) (hrv : DRls w B rv p.rules) (hB0 : 0 < B) (hB : B ≤ w.heap.size) (hT : Tab w) :
    Calls Tryz.prog 22 #[.agg #[dv, rv], .int .i64 v] w (BestP p v w) := by
  have HDV := Lib.hid hdv; have HRV := Lib.hid hrv; have HT := Lib.hid hT
  have hdl := hdv.1
  obtain ⟨da, dc, rfl⟩ := hdv.slice
  obtain ⟨ra, rc, rfl⟩ := hrv.slice
  clear hdv hrv hT
  go_enter Tryz.func22, Tryz.ntmps22
  go_upto_region 1 with fail
  refine abs_wp (fun W => W.heap[w.heap.size]? = some (.cells #[.slice da p.doms.length dc, .slice ra p.rules.length rc] 25 (0, 0)) ∧ W.heap[w.heap.size + 1]? = some (.cells #[.int .i64 v] 3 (0, 0)) ∧ Below w.heap.size w W) ⟨(heap_new2 w _ _).1, (heap_new2 w _ _).2, Below.new2 w _ _⟩ ?_
  rintro W ⟨k0, k1, hb⟩
  have z0 : w.heap.size < W.heap.size := (Array.getElem?_eq_some_iff.1 k0).1
  have z1 : w.heap.size + 1 < W.heap.size := (Array.getElem?_eq_some_iff.1 k1).1
  have c0 : W.cell? ⟨w.heap.size, 0, none⟩ = some (.slice da p.doms.length dc) := by rw [cell_of_row _ _ _ _ _ _ k0]; rfl
  have c1 : W.cell? ⟨w.heap.size, 1, none⟩ = some (.slice ra p.rules.length rc) := by rw [cell_of_row _ _ _ _ _ _ k0]; rfl
  have K0 := Lib.hid k0; have K1 := Lib.hid k1; have HB := Lib.hid hb
  clear k0 k1 hb
  go_wp2_with fail
  refine (check_any p _ _ _ (HDV.out.below HB.out hB) (HRV.out.below HB.out hB) (Nat.le_trans hB HB.out.size)).mono ?_
  rintro e w2 ⟨rfl, hb2⟩
  have hbw2 := HB.out.trans (hb2.mono HB.out.size)
  have k02 := heap_later K0.out hb2 z0
  have k12 := heap_later K1.out hb2 z1
  have z02 : w.heap.size < w2.heap.size := (Array.getElem?_eq_some_iff.1 k02).1
  have z12 : w.heap.size + 1 < w2.heap.size := (Array.getElem?_eq_some_iff.1 k12).1
  have d0 : w2.cell? ⟨w.heap.size, 0, none⟩ = some (.slice da p.doms.length dc) := by rw [cell_of_row _ _ _ _ _ _ k02]; rfl
  have d1 : w2.cell? ⟨w.heap.size, 1, none⟩ = some (.slice ra p.rules.length rc) := by rw [cell_of_row _ _ _ _ _ _ k02]; rfl
  have d2 : w2.cell? ⟨w.heap.size + 1, 0, none⟩ = some (.int .i64 v) := by rw [cell_of_row _ _ _ _ _ _ k12]; rfl
  have K02 := Lib.hid k02; have K12 := Lib.hid k12; have HB2 := Lib.hid hbw2
  clear k02 k12 hb2 hbw2 c0 c1 K0 K1 HB z0 z1
  cases hok : probD p
  case false =>
    have HE : Hid (besE p v = 2) := Lib.hid (by unfold besE; rw [hok]; rfl)
    unfold errOf
    go_wp2
    refine bodyPost_ret (v := .tuple #[.slice none 0 0, .int .i64 2]) (by simp [results, Tryz.results22, go_sem]) rfl (BestP.bad HE.out (by decide) HB2.out)
  case true =>
    have HOK := Lib.hid hok; have HPP := Lib.hid (probD_parts hok)
    have hn8 := HPP.out.2.1
    have hn1 := HPP.out.1
    unfold errOf
    clear hok
    go_wp2_with fail
    refine (within_any _ _ _ _).mono ?_
    rintro e w3 ⟨rfl, rfl⟩
    cases hin : inB v 0 ((p.doms.length : Int) - 1)
    case false =>
      have HE : Hid (besE p v = 2) := Lib.hid (by unfold besE; rw [hin, Bool.and_false]; rfl)
      clear hin
      go_wp2
      refine bodyPost_ret (v := .tuple #[.slice none 0 0, .int .i64 2]) (by simp [results, Tryz.results22, go_sem]) rfl (BestP.bad HE.out (by decide) HB2.out)
    case true =>
      obtain ⟨vn, rfl, hvn⟩ := inB_nat hin
      have HIN := Lib.hid hin
      clear hin
      obtain ⟨fv, hfv⟩ : ∃ fv, fv = foundV 58 w3.heap.size (w.heap.size + 1) := ⟨_, rfl⟩
      have hbs := build_srch da p.doms.length dc ra p.rules.length rc fv (by rw [hfv]; rfl) ⟨_, _, _, by rw [hfv]; rfl⟩
      have HBS := Lib.hid hbs
      clear hbs
      unfold foundV at hfv
      go_wp2_with (
        refine wpList_ran rfl _ (exec_build 93 #[(0, .tmp 20), (2, .tmp 21)] rfl (by simp [Act.eval]) (by rw [← hfv]; exact HBS.out _)) ?_
        simp only [Act.put, List.setIfInBounds_toArray, List.set_cons_zero, List.set_cons_succ])
      refine abs_calls (fun W4 => W4.heap[w3.heap.size]? = some (.cells #[.slice none 0 0] 39 (0, 0)) ∧ W4.heap[w3.heap.size + 1]? = some (.cells #[.slice da p.doms.length dc, .slice ra p.rules.length rc, .int .i64 0, foundV 58 w3.heap.size (w.heap.size + 1), .bool false] 93 (0, 0)) ∧ Below w3.heap.size w3 W4 ∧ w3.heap.size + 2 = W4.heap.size) ⟨(heap_new2 w3 _ _).1, (heap_new2 w3 _ _).2, Below.new2 w3 _ _, by simp⟩ ?_
      rintro W4 ⟨j0, j1, hb4, hs4⟩
      have hbw4 := HB2.out.trans (hb4.mono HB2.out.size)
      have g1 := heap_later K12.out hb4 z12
      have g0 := heap_later K02.out hb4 z02
      have HBW4 := Lib.hid hbw4; have J0 := Lib.hid j0; have J1 := Lib.hid j1; have G1 := Lib.hid g1
      clear hb4 hbw4 j0 j1 g1 g0 d0 d1 d2 K02 K12 hfv HBS
      refine (fieldOf_any p _ _ W4 (HDV.out.below HBW4.out hB) (Nat.le_trans hB HBW4.out.size) HPP.out.1 HPP.out.2.1 _ p.rules.length rc rfl).mono ?_
      rintro e w5 ⟨rfl, hb5⟩
      have hbw5 := HBW4.out.trans (hb5.mono HBW4.out.size)
      have h0 := heap_later J0.out hb5 (by omega)
      have h1 := heap_later J1.out hb5 (by omega)
      have hq := heap_later G1.out hb5 (by omega)
      have hs5 := hb5.size
      have hsn : SNow p (.slice da p.doms.length dc) (.slice ra p.rules.length rc) (foundV 58 w3.heap.size (w.heap.size + 1)) (w3.heap.size + 1) B w5.heap.size (BestInv p.doms.length vn w3.heap.size (w.heap.size + 1) w5.heap.size) (⟨0, false, none⟩ : Sx (Option (List Int))) w5 :=
        ⟨HDV.out.below hbw5 hB, HRV.out.below hbw5 hB, HT.out.below hbw5 (by omega), h1, ⟨⟨_, h0, rfl⟩, hq⟩, Nat.le_refl _⟩
      have hx : SFix (w3.heap.size + 1) w3.heap.size B w5.heap.size := ⟨hB0, by omega, by omega, by omega, by omega⟩
      have HND := Lib.hid (node_any p HOK.out _ _ (w3.heap.size + 1) w3.heap.size (w.heap.size + 1) B w5.heap.size 58 (bestF vn) _ hx (best_told _ vn _ _ _ (by omega) (by omega) hvn) (totalD (padD p.doms) + 1) (padD p.doms) ⟨0, false, none⟩ w5 (Nat.lt_succ_self _) (padD_ok HOK.out) (Nat.zero_le _) hsn)
      have HBW5 := Lib.hid hbw5; have HX := Lib.hid hx
      clear h0 h1 hq hsn hb5 hbw5 hx J0 J1 G1 HBW4
      go_wp2_with fail
      refine HND.out.mono ?_
      rintro e w6 ⟨rfl, hblk, ⟨⟨sv, ho6, hso6⟩, -⟩, hk6⟩
      obtain ⟨S, hS⟩ : ∃ S, S = besS p vn := ⟨_, rfl⟩
      have hS2 : (nodeD p (bestF vn) (totalD (padD p.doms) + 1) (padD p.doms) ⟨0, false, none⟩).2 = S := hS.symm
      rw [hS2] at hblk hso6
      have hbf := HBW5.out.trans (hk6.toBelow (B := w.heap.size) (by omega) (by omega) (fun q hq hh => by rcases hh with hh | hh <;> omega))
      have s3 : w6.cell? ⟨w3.heap.size + 1, 4, none⟩ = some (.bool S.opn) := by rw [cell_of_row _ _ _ _ _ _ hblk]; rfl
      have so : w6.cell? ⟨w3.heap.size, 0, none⟩ = some sv := by rw [cell_of_row _ _ _ _ _ _ ho6]; rfl
      have zo : w3.heap.size < w6.heap.size := (Array.getElem?_eq_some_iff.1 ho6).1
      have zs : w3.heap.size + 1 < w6.heap.size := (Array.getElem?_eq_some_iff.1 hblk).1
      have HBF := Lib.hid hbf; have HSO := Lib.hid hso6; have HS := Lib.hid hS
      have HE0 : Hid (besE p (vn : Nat) = if S.opn then 8 else match S.got with | none => 5 | some _ => 0) := Lib.hid (by unfold besE; rw [HOK.out, HIN.out, Int.toNat_natCast, ← HS.out]; rfl)
      clear hblk ho6 hso6 hk6 hbf hS hS2 HND
      cases hop : S.opn
      case true =>
        have HE : Hid (besE p (vn : Nat) = 8) := Lib.hid (by rw [HE0.out, hop]; rfl)
        rw [hop] at s3
        clear so
        go_wp2
        refine bodyPost_ret (v := .tuple #[.slice none 0 0, .int .i64 8]) (by simp [results, Tryz.results22, go_sem]) rfl (BestP.bad HE.out (by decide) HBF.out)
      case false =>
        rw [hop] at s3
        cases hgo : S.got with
        | none =>
          have HE : Hid (besE p (vn : Nat) = 5) := Lib.hid (by rw [HE0.out, hop, hgo]; rfl)
          have hs := HSO.out
          rw [hgo] at hs
          obtain rfl : sv = .slice none 0 0 := hs
          clear hgo hop
          go_wp2
          refine bodyPost_ret (v := .tuple #[.slice none 0 0, .int .i64 5]) (by simp [results, Tryz.results22, go_sem]) rfl (BestP.bad HE.out (by decide) HBF.out)
        | some o =>
          have he : besE p (vn : Nat) = 0 := by rw [HE0.out, hop, hgo]; rfl
          have hs := HSO.out
          rw [hgo] at hs
          obtain ⟨hol, hob⟩ := hs
          obtain ⟨g', cp', cur', rfl, _, hg', -, -, -⟩ := own_some hob (by omega)
          have hbl : besL p (vn : Nat) = o := by unfold besL; rw [if_pos he, Int.toNat_natCast, ← HS.out, hgo]; rfl
          have HFIN : Hid (BestP p (vn : Nat) w (.returned (.tuple #[.slice (some ⟨g', 0, none⟩) p.doms.length cp', .int .i64 0])) w6) := Lib.hid ⟨_, by rw [he], by rw [hbl, hol]; exact own_mono hob (by have := HBW5.out.size; omega), HBF.out⟩
          clear hgo hop he hob hg' hbl hol HSO
          go_wp2
          exact bodyPost_ret (v := .tuple #[.slice (some ⟨g', 0, none⟩) p.doms.length cp', .int .i64 0]) (by simp [results, Tryz.results22, go_sem]) rfl HFIN.out
end Go.Proofs.YtdmmegmkdhinjaaGreatDoor
