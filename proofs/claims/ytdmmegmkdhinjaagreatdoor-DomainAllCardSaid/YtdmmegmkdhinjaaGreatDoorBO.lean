/- What the functions of package domain compute of the chapter's examples. · The examples of the chapter: rule, A, B. · works: the chapter's examples hold. -/
import Derived.Test.YtdmmegmkdhinjaaGreatDoorBN
import Derived.Test.YtdmmegmkdhinjaaGreatDoorDomO
namespace Go.Proofs.YtdmmegmkdhinjaaGreatDoor
open Go Go.RowKit

def pA : Dp := ⟨[15, 15, 15, 15], [⟨2, [0, 1, 2, 3], [], 0⟩, ⟨4, [0, 1], [], 2⟩, ⟨1, [2, 3], [1, 2], 2⟩]⟩
def pB : Dp := ⟨[63, 63], [⟨3, [0, 1], [3, 1, 4, 1, 5], 0⟩]⟩
theorem okA : probD pA = true := by decide +kernel
theorem okB : probD pB = true := by decide +kernel
theorem valSupA : supE pA 0 0 3 = 0 ∧ supL pA 0 0 3 = [3, 0, 1, 2] := by decide +kernel
theorem valPropA : (propD pA).1.take 4 = [8, 2, 4, 1] ∧ (propD pA).2.length = 12 ∧ (cget (propD pA).2 7).rule = 0 ∧ (cget (propD pA).2 7).why = [3, 4, 6] := by decide +kernel
theorem valSolB : solE pB 3 = 0 ∧ solL pB 3 = [[1, 1], [3, 1], [0, 3]] ∧ solN pB 3 = 5 := by decide +kernel
theorem valCoreA : coreE pA (propD pA).2 7 = 0 ∧ coreL pA (propD pA).2 7 = [0, 1, 2] := by decide +kernel
end Go.Proofs.YtdmmegmkdhinjaaGreatDoor

namespace Go.Proofs.YtdmmegmkdhinjaaGreatDoor
open Go Go.RowKit
attribute [local go_sem] cell_grow u64_sAnd u64_sOr u64_sDiff sDiff_all zeqI zneI sAnd_bit_zero sAnd_bit_zeroN sAnd_bit_nonzero

set_option maxRecDepth 100000 in
theorem mk_rule (k n : Int) (va : Option Addr) (vn vc : Nat) (na : Option Addr) (nn nc : Nat) (w : World) : Gives Tryz.prog 72 #[.int .i64 k, .slice va vn vc, .slice na nn nc, .int .i64 n] w (.agg #[.int .i64 k, .slice va vn vc, .slice na nn nc, .int .i64 n]) := by
  unfold Gives
  go_enter Tryz.func72, Tryz.ntmps72
  go_wp2
  have hinf : (Tryz.prog.info? 69).map (·.size) = some [Value.int .i64 k, .slice va vn vc, .slice na nn nc, .int .i64 n].length := by kernel_rfl
  exact bodyPost_ret (results_cell1 (p := 8) (ty := 69) rfl rfl (run_loadVar_mid _ _ 0 _ [Value.int .i64 k, .slice va vn vc, .slice na nn nc, .int .i64 n] _ (row_rangeL (heap_new0 _ _)) Tryz.underlying69 rfl hinf)) rfl ⟨rfl, Below.new1 _ _⟩
theorem ints_nil (w : World) (B : Nat) : Ints w B (.slice none 0 0) [] := ⟨by decide, _, _, rfl, Nat.le_refl _, by decide, fun h => absurd h (by decide)⟩
/-- Rules that lie in a block. -/
theorem drls_block {w : World} {b : Nat} {rs : List Dr} {cs : List Value} {t : TypeId} (h : w.heap[b]? = some (.cells cs.toArray t (0, 0))) (hl : rs.length ≤ 1000) (hc : cs.length = rs.length * 4)
    (hr : ∀ i, i < rs.length → cs[i * 4]? = some (.int .i64 (drget rs i).kind) ∧ (∃ vv, cs[i * 4 + 1]? = some vv ∧ Ints w w.heap.size vv (drget rs i).vars) ∧ (∃ nv, cs[i * 4 + 2]? = some nv ∧ Ints w w.heap.size nv (drget rs i).nums) ∧ cs[i * 4 + 3]? = some (.int .i64 (drget rs i).n)) :
    DRls w w.heap.size (.slice (some ⟨b, 0, none⟩) rs.length rs.length) rs := by
  refine ⟨fun i => cs[i]?.getD undef, ⟨by omega, _, _, rfl, Nat.le_refl _, by unfold maxLen; omega, fun _ => ⟨b, 0, rfl, (Array.getElem?_eq_some_iff.1 h).1, fun i hi => ?_⟩⟩, fun i hi => ?_⟩
  · rw [Nat.zero_add, cell_of_row _ _ _ _ _ _ h, List.getElem?_toArray]; simp only [List.getElem?_eq_getElem (show i < cs.length by omega), Option.getD_some]
  · obtain ⟨e1, ⟨vv, e2, e3⟩, ⟨nv, e4, e5⟩, e6⟩ := hr i hi
    simp only [e1, e2, e4, e6, Option.getD_some]
    exact ⟨trivial, e3, e5, trivial⟩
/-- A problem that has just been made. -/
def Made (p : Dp) (w : World) (e : Ending) (w' : World) : Prop := ∃ dv rv, e = .returned (.agg #[dv, rv]) ∧ Us w' w'.heap.size dv p.doms ∧ DRls w' w'.heap.size rv p.rules ∧ Below w.heap.size w w'
set_option maxRecDepth 100000 in
set_option maxHeartbeats 1000000 in
theorem mkB (w : World) : Calls Tryz.prog 41 #[] w (Made pB w) := by
  go_enter Tryz.func41, Tryz.ntmps41
  go_wp2_with fail
  refine (mk_rule _ _ _ _ _ _ _ _ _).mono ?_
  rintro e w1 ⟨rfl, hb1⟩
  have h3 := heap_new4 w (.cells #[.slice none 0 0, .slice none 0 0] 25) (.cells (natsV pB.doms).toArray 56) (.cells (intsV [0, 1]).toArray 3) (.cells (intsV [3, 1, 4, 1, 5]).toArray 3)
  have n3 := Below.new4 w (.cells #[.slice none 0 0, .slice none 0 0] 25) (.cells (natsV pB.doms).toArray 56) (.cells (intsV [0, 1]).toArray 3) (.cells (intsV [3, 1, 4, 1, 5]).toArray 3)
  have r1 := heap_later h3.1 hb1 (by simp; try omega)
  have b1 := heap_later h3.2.1 hb1 (by simp; try omega)
  have y1 := heap_later h3.2.2.1 hb1 (by simp; try omega)
  have y2 := heap_later h3.2.2.2 hb1 (by simp; try omega)
  have HB1 := Lib.hid (n3.trans (hb1.mono (by simp; try omega)))
  have R1 := Lib.hid r1; have B1 := Lib.hid b1; have Y1 := Lib.hid y1; have Y2 := Lib.hid y2
  have s1 : w.heap.size + 4 ≤ w1.heap.size := by have := hb1.size; simpa using this
  have c0 : w1.cell? ⟨w.heap.size, 0, none⟩ = some (.slice none 0 0) := by rw [cell_of_row _ _ _ _ _ _ r1]; rfl
  have c1 : w1.cell? ⟨w.heap.size, 1, none⟩ = some (.slice none 0 0) := by rw [cell_of_row _ _ _ _ _ _ r1]; rfl
  have f0 : w1.frozen? ⟨w.heap.size, 0, none⟩ = false := by simp [World.frozen?, r1]
  have f1 : w1.frozen? ⟨w.heap.size, 1, none⟩ = false := by simp [World.frozen?, r1]
  have z0 : w.heap.size < w1.heap.size := by omega
  clear h3 n3 hb1 r1 b1 y1 y2
  have R9 := R1; have B9 := B1; have HB9 := HB1
  go_wp2_with fail
  have j1 := set_row (o := 0) (v := .slice (some ⟨w.heap.size + 1, 0, none⟩) 2 2) R9.out
  have j2 := set_row (o := 1) (v := .slice (some ⟨w1.heap.size, 0, none⟩) 1 1) j1
  refine abs_post (fun V => V.heap[w.heap.size]? = some (.cells #[.slice (some ⟨w.heap.size + 1, 0, none⟩) 2 2, .slice (some ⟨w1.heap.size, 0, none⟩) 1 1] 25 (0, 0)) ∧ (∀ q o, w1.heap[q]? = some o → q ≠ w.heap.size → V.heap[q]? = some o) ∧ V.heap[w1.heap.size]? = some (.cells ([.int .i64 3, .slice (some ⟨w.heap.size + 1 + 1, 0, none⟩) 2 2, .slice (some ⟨w.heap.size + 1 + 1 + 1, 0, none⟩) 5 5, .int .i64 0] : List Value).toArray 69 (0, 0)) ∧ Below w.heap.size w V)
    ⟨heap_old j2, fun q o e hq => heap_old ((Below.heap_setCell _ _ _ _ hq).trans ((Below.heap_setCell _ _ _ _ hq).trans e)), heap_at (by simp [World.setCell]), ?_⟩ ?_
  · exact ((HB9.out.setCell (Nat.le_refl _) _).setCell (Nat.le_refl _) _).alloc (by simp [World.setCell]; omega) _
  clear j1 j2 c0 c1 f0 f1
  rintro V ⟨kr, hkeep, kk, hb⟩
  have hinf : (Tryz.prog.info? 25).map (·.size) = some [Value.slice (some ⟨w.heap.size + 1, 0, none⟩) 2 2, .slice (some ⟨w1.heap.size, 0, none⟩) 1 1].length := by kernel_rfl
  refine bodyPost_ret (results_cell1 (p := 0) (ty := 25) rfl rfl (run_loadVar_mid _ _ 0 _ [Value.slice (some ⟨w.heap.size + 1, 0, none⟩) 2 2, .slice (some ⟨w1.heap.size, 0, none⟩) 1 1] _ (row_rangeL kr) Tryz.underlying25 rfl hinf)) rfl ⟨_, _, rfl, us_block (hkeep _ _ B9.out (by omega)) (by decide), drls_block (rs := pB.rules) kk (by decide) (by rfl) (fun i hi => ?_), hb⟩
  have y1 := ints_block (hkeep _ _ Y1.out (by omega)) (by decide)
  have y2 := ints_block (hkeep _ _ Y2.out (by omega)) (by decide)
  have hi1 : i < 1 := hi
  match i, hi1 with
  | 0, _ => exact ⟨rfl, ⟨_, rfl, y1⟩, ⟨_, rfl, y2⟩, rfl⟩
set_option maxRecDepth 100000 in
set_option maxHeartbeats 1000000 in
theorem mkA (w : World) : Calls Tryz.prog 40 #[] w (Made pA w) := by
  go_enter Tryz.func40, Tryz.ntmps40
  go_wp2_with fail
  refine (mk_rule _ _ _ _ _ _ _ _ _).mono ?_
  rintro e w1 ⟨rfl, hb1⟩
  have h3 := heap_new3 w (.cells #[.slice none 0 0, .slice none 0 0] 25) (.cells (natsV pA.doms).toArray 56) (.cells (intsV [0, 1, 2, 3]).toArray 3)
  have n3 := Below.new3 w (.cells #[.slice none 0 0, .slice none 0 0] 25) (.cells (natsV pA.doms).toArray 56) (.cells (intsV [0, 1, 2, 3]).toArray 3)
  have R1 := Lib.hid (heap_later h3.1 hb1 (by simp; try omega)); have B1 := Lib.hid (heap_later h3.2.1 hb1 (by simp; try omega)); have Y1 := Lib.hid (heap_later h3.2.2 hb1 (by simp; try omega))
  have HB1 := Lib.hid (n3.trans (hb1.mono (by simp; try omega)))
  have s1 : w.heap.size + 3 ≤ w1.heap.size := by have := hb1.size; simpa using this
  clear h3 n3 hb1
  go_wp2_with fail
  refine (mk_rule _ _ _ _ _ _ _ _ _).mono ?_
  rintro e w2 ⟨rfl, hb2⟩
  have hn := Below.new1 w1 (.cells (intsV [0, 1]).toArray 3)
  have hb2' := hn.trans (hb2.mono (by simp))
  have Y2 := Lib.hid (heap_later (heap_new0 w1 (.cells (intsV [0, 1]).toArray 3)) hb2 (by simp))
  have HB2 := Lib.hid hb2'
  have s2 : w1.heap.size + 1 ≤ w2.heap.size := by have := hb2.size; simpa using this
  clear hn hb2 hb2'
  go_wp2_with fail
  refine (mk_rule _ _ _ _ _ _ _ _ _).mono ?_
  rintro e w3 ⟨rfl, hb3⟩
  have hn := Below.new2 w2 (.cells (intsV [2, 3]).toArray 3) (.cells (intsV [1, 2]).toArray 3)
  have hn2 := heap_new2 w2 (.cells (intsV [2, 3]).toArray 3) (.cells (intsV [1, 2]).toArray 3)
  have hb3' := hn.trans (hb3.mono (by simp; try omega))
  have Y3 := Lib.hid (heap_later hn2.1 hb3 (by simp; try omega)); have Y4 := Lib.hid (heap_later hn2.2 hb3 (by simp; try omega))
  have HB3 := Lib.hid hb3'
  have s3 : w2.heap.size + 2 ≤ w3.heap.size := by have := hb3.size; simpa using this
  clear hn hn2 hb3 hb3'
  have HB13 := Lib.hid (HB2.out.trans (HB3.out.mono (by omega)))
  have R9 := Lib.hid (heap_later R1.out HB13.out (by omega)); have B9 := Lib.hid (heap_later B1.out HB13.out (by omega)); have Z1 := Lib.hid (heap_later Y1.out HB13.out (by omega)); have Z2 := Lib.hid (heap_later Y2.out HB3.out (by omega))
  have HB9 := Lib.hid (HB1.out.trans (HB13.out.mono (by omega)))
  have c0 : w3.cell? ⟨w.heap.size, 0, none⟩ = some (.slice none 0 0) := by rw [cell_of_row _ _ _ _ _ _ R9.out]; rfl
  have c1 : w3.cell? ⟨w.heap.size, 1, none⟩ = some (.slice none 0 0) := by rw [cell_of_row _ _ _ _ _ _ R9.out]; rfl
  have f0 : w3.frozen? ⟨w.heap.size, 0, none⟩ = false := by simp [World.frozen?, R9.out]
  have f1 : w3.frozen? ⟨w.heap.size, 1, none⟩ = false := by simp [World.frozen?, R9.out]
  have z0 : w.heap.size < w3.heap.size := by omega
  go_wp2_with fail
  have j1 := set_row (o := 0) (v := .slice (some ⟨w.heap.size + 1, 0, none⟩) 4 4) R9.out
  have j2 := set_row (o := 1) (v := .slice (some ⟨w3.heap.size, 0, none⟩) 3 3) j1
  refine abs_post (fun V => V.heap[w.heap.size]? = some (.cells #[.slice (some ⟨w.heap.size + 1, 0, none⟩) 4 4, .slice (some ⟨w3.heap.size, 0, none⟩) 3 3] 25 (0, 0)) ∧ (∀ q o, w3.heap[q]? = some o → q ≠ w.heap.size → V.heap[q]? = some o) ∧ V.heap[w3.heap.size]? = some (.cells ([.int .i64 2, .slice (some ⟨w.heap.size + 1 + 1, 0, none⟩) 4 4, .slice none 0 0, .int .i64 0, .int .i64 4, .slice (some ⟨w1.heap.size, 0, none⟩) 2 2, .slice none 0 0, .int .i64 2, .int .i64 1, .slice (some ⟨w2.heap.size, 0, none⟩) 2 2, .slice (some ⟨w2.heap.size + 1, 0, none⟩) 2 2, .int .i64 2] : List Value).toArray 69 (0, 0)) ∧ Below w.heap.size w V)
    ⟨heap_old j2, fun q o e hq => heap_old ((Below.heap_setCell _ _ _ _ hq).trans ((Below.heap_setCell _ _ _ _ hq).trans e)), heap_at (by simp [World.setCell]), ?_⟩ ?_
  · exact ((HB9.out.setCell (Nat.le_refl _) _).setCell (Nat.le_refl _) _).alloc (by simp [World.setCell]; omega) _
  clear j1 j2 c0 c1 f0 f1
  rintro V ⟨kr, hkeep, kk, hb⟩
  have hinf : (Tryz.prog.info? 25).map (·.size) = some [Value.slice (some ⟨w.heap.size + 1, 0, none⟩) 4 4, .slice (some ⟨w3.heap.size, 0, none⟩) 3 3].length := by kernel_rfl
  refine bodyPost_ret (results_cell1 (p := 0) (ty := 25) rfl rfl (run_loadVar_mid _ _ 0 _ [Value.slice (some ⟨w.heap.size + 1, 0, none⟩) 4 4, .slice (some ⟨w3.heap.size, 0, none⟩) 3 3] _ (row_rangeL kr) Tryz.underlying25 rfl hinf)) rfl ⟨_, _, rfl, us_block (hkeep _ _ B9.out (by omega)) (by decide), drls_block (rs := pA.rules) kk (by decide) (by rfl) (fun i hi => ?_), hb⟩
  have y1 := ints_block (hkeep _ _ Z1.out (by omega)) (by decide)
  have y2 := ints_block (hkeep _ _ Z2.out (by omega)) (by decide)
  have y3 := ints_block (hkeep _ _ Y3.out (by omega)) (by decide)
  have y4 := ints_block (hkeep _ _ Y4.out (by omega)) (by decide)
  have hi1 : i < 3 := hi
  match i, hi1 with
  | 0, _ => exact ⟨rfl, ⟨_, rfl, y1⟩, ⟨_, rfl, ints_nil _ _⟩, rfl⟩
  | 1, _ => exact ⟨rfl, ⟨_, rfl, y2⟩, ⟨_, rfl, ints_nil _ _⟩, rfl⟩
  | 2, _ => exact ⟨rfl, ⟨_, rfl, y3⟩, ⟨_, rfl, y4⟩, rfl⟩
end Go.Proofs.YtdmmegmkdhinjaaGreatDoor

namespace Go.Proofs.YtdmmegmkdhinjaaGreatDoor
open Go Go.RowKit
attribute [local go_sem] cell_grow u64_sAnd u64_sOr u64_sDiff sDiff_all zeqI zneI sAnd_bit_zero sAnd_bit_zeroN sAnd_bit_nonzero

theorem lls_three {w : World} {b g1 g2 g3 : Nat} {t : TypeId} (h : w.heap[b]? = some (.cells #[.slice (some ⟨g1, 0, none⟩) 2 2, .slice (some ⟨g2, 0, none⟩) 2 2, .slice (some ⟨g3, 0, none⟩) 2 2] t (0, 0))) {x y z : List Int} (hx : Ints w w.heap.size (.slice (some ⟨g1, 0, none⟩) 2 2) x) (hy : Ints w w.heap.size (.slice (some ⟨g2, 0, none⟩) 2 2) y) (hz : Ints w w.heap.size (.slice (some ⟨g3, 0, none⟩) 2 2) z) : Lls w w.heap.size (.slice (some ⟨b, 0, none⟩) 3 3) [x, y, z] := by
  refine ⟨fun i => (#[Value.slice (some ⟨g1, 0, none⟩) 2 2, .slice (some ⟨g2, 0, none⟩) 2 2, .slice (some ⟨g3, 0, none⟩) 2 2])[i]?.getD undef, ⟨by show 3 ≤ _; decide, _, _, rfl, Nat.le_refl _, by decide, fun _ => ⟨b, 0, rfl, (Array.getElem?_eq_some_iff.1 h).1, fun i hi => ?_⟩⟩, fun i hi => ?_⟩
  · have hi3 : i < 3 := by simpa using hi
    rw [Nat.zero_add, cell_of_row _ _ _ _ _ _ h]
    match i, hi3 with
    | 0, _ => rfl
    | 1, _ => rfl
    | 2, _ => rfl
  · have hi3 : i < 3 := hi
    match i, hi3 with
    | 0, _ => exact hx
    | 1, _ => exact hy
    | 2, _ => exact hz
set_option maxRecDepth 100000 in
set_option maxHeartbeats 4000000 in
theorem works_any (w : World) (hT : Tab w) (hw0 : 0 < w.heap.size) : Gives Tryz.prog 8 #[] w (.bool true) := by
  unfold Gives
  have HT := Lib.hid hT
  clear hT
  go_enter Tryz.func8, Tryz.ntmps8
  go_wp2_with fail
  refine (mkA _).mono ?_
  rintro e w1 ⟨dv, rv, rfl, hd, hr, hb1⟩
  have H1 := Lib.hid hd; have H2 := Lib.hid hr; have HB1 := Lib.hid hb1
  have hs1 := hb1.size
  obtain ⟨da, dc, rfl⟩ := hd.slice
  obtain ⟨ra, rc, rfl⟩ := hr.slice
  clear hd hr hb1
  go_wp2_with fail
  refine (support_any pA 0 0 3 _ _ w1 H1.out H2.out (by omega) (Nat.le_refl _) (HT.out.below HB1.out hw0)).mono ?_
  rintro e w2 ⟨lv, rfl, hown, hb2⟩
  rw [valSupA.1]
  rw [valSupA.2] at hown
  have hiw := ownsRow_ints hown (by decide) rfl
  obtain ⟨wa, wc, rfl⟩ : ∃ a c, lv = .slice a 4 c := own_form hown
  have HIW := Lib.hid hiw; have HB2 := Lib.hid (HB1.out.trans (hb2.mono hs1))
  have hs2 := hb2.size
  clear hown hiw hb2 H1 H2 HB1
  go_wp2_with fail
  refine (mkA _).mono ?_
  rintro e w3 ⟨dv, rv, rfl, hd, hr, hb3⟩
  have H1 := Lib.hid hd; have H2 := Lib.hid hr; have HB3 := Lib.hid (HB2.out.trans (hb3.mono HB2.out.size)); have HL3 := Lib.hid hb3
  have hs3 := hb3.size
  obtain ⟨da, dc, rfl⟩ := hd.slice
  obtain ⟨ra, rc, rfl⟩ := hr.slice
  clear hd hr hb3
  go_wp2_with fail
  refine (propagate_any pA _ _ w3 H1.out H2.out (by omega) (Nat.le_refl _) (HT.out.below HB3.out hw0)).mono ?_
  rintro e w4 ⟨hb4, ⟨hno, _⟩ | ⟨_, fv, cv, rfl, hfo, hco⟩⟩
  · rw [okA] at hno; cases hno
  rw [show (propD pA).1.take pA.doms.length = [8, 2, 4, 1] from valPropA.1] at hfo
  have hfu := owns_us hfo (by decide) rfl
  obtain ⟨fa, fc, rfl⟩ : ∃ a c, fv = .slice a 4 c := own_form hfo
  obtain ⟨ca, cc, rfl⟩ : ∃ a c, cv = .slice a (propD pA).2.length c := by obtain ⟨cs, h, _⟩ := hco; exact own_form h
  have hgp := run_good (rs := true) okA (padD_ok okA)
  have hcl : (propD pA).2.length = 12 := valPropA.2.1
  have hct := hco.cts (by rw [hcl]; decide) (fun i hi => by have h : (cget (propD pA).2 i).why.length ≤ 128 := hgp.why i hi; omega)
  have HFU := Lib.hid hfu; have HCT := Lib.hid hct; have HB4 := Lib.hid (HB3.out.trans (hb4.mono HB3.out.size)); have HL4 := Lib.hid (HL3.out.trans (hb4.mono hs3))
  have hs4 := hb4.size
  have HCL := Lib.hid hcl
  clear hfo hfu hco hct hb4 H1 H2 HB2 HB3 HL3 hgp hcl
  go_wp2_with fail
  refine (mkB _).mono ?_
  rintro e w5 ⟨dv, rv, rfl, hd, hr, hb5⟩
  have H1 := Lib.hid hd; have H2 := Lib.hid hr; have HB5 := Lib.hid (HB4.out.trans (hb5.mono HB4.out.size)); have HL5 := Lib.hid hb5
  have hs5 := hb5.size
  obtain ⟨da, dc, rfl⟩ := hd.slice
  obtain ⟨ra, rc, rfl⟩ := hr.slice
  clear hd hr hb5
  go_wp2_with fail
  refine (solve_any pB 3 _ _ w5 H1.out H2.out (by omega) (Nat.le_refl _) (HT.out.below HB5.out hw0)).mono ?_
  rintro e w6 ⟨sv, rfl, hso, hb6⟩
  rw [valSolB.1, valSolB.2.2]
  rw [valSolB.2.1] at hso
  have hsl : Lls w6 w6.heap.size sv [[1, 1], [3, 1], [0, 3]] := hso.lls (by decide) (by decide)
  obtain ⟨sa, sc, rfl⟩ : ∃ a c, sv = .slice a 3 c := hso.form
  have HSL := Lib.hid hsl; have HB6 := Lib.hid (HB5.out.trans (hb6.mono HB5.out.size)); have HL6 := Lib.hid (HL5.out.trans (hb6.mono hs5))
  have hs6 := hb6.size
  clear hso hsl hb6 H1 H2 HB4 HB5 HL5
  go_wp2_with fail
  refine (mkA _).mono ?_
  rintro e w7 ⟨dv, rv, rfl, hd, hr, hb7⟩
  have H1 := Lib.hid hd; have H2 := Lib.hid hr; have HB7 := Lib.hid (HB6.out.trans (hb7.mono HB6.out.size)); have HL7 := Lib.hid hb7
  have hs7 := hb7.size
  obtain ⟨da, dc, rfl⟩ := hd.slice
  obtain ⟨ra, rc, rfl⟩ := hr.slice
  have hlc7 := (HCT.out.below (HL6.out.trans (hb7.mono HL6.out.size)) (Nat.le_refl _)).mono (B' := w7.heap.size) (by have := HL6.out.size; omega)
  have HLC7 := Lib.hid hlc7
  clear hd hr hb7 hlc7
  go_wp2_with fail
  refine (core_any pA (propD pA).2 7 (by rw [HCL.out]; decide) _ _ _ w7 H1.out H2.out HLC7.out (by omega) (Nat.le_refl _) (HT.out.below HB7.out hw0)).mono ?_
  rintro e w8 ⟨kv, rfl, hko, hb8⟩
  rw [valCoreA.1]
  rw [valCoreA.2] at hko
  have hki := ownsRow_ints hko (by decide) rfl
  obtain ⟨ka, kc, rfl⟩ : ∃ a c, kv = .slice a 3 c := own_form hko
  have HB8 := Lib.hid (HB7.out.trans (hb8.mono HB7.out.size)); have HKI := Lib.hid hki
  have hs8 := hb8.size
  have hb68 := HL7.out.trans (hb8.mono hs7)
  have hb48 := HL6.out.trans (hb68.mono HL6.out.size)
  have hb28 := HL4.out.trans (hb48.mono HL4.out.size)
  have e24 := HL4.out.size; have e46 := HL6.out.size; have e68 := hb68.size
  have HW8 := Lib.hid (HIW.out.below hb28 (Nat.le_refl _)); have HF8 := Lib.hid (HFU.out.below hb48 (Nat.le_refl _)); have HC8 := Lib.hid (HCT.out.below hb48 (Nat.le_refl _)); have HS8 := Lib.hid (HSL.out.below hb68 (Nat.le_refl _))
  clear hko hki hb8 hb68 hb48 hb28 H1 H2 HB6 HB7 HL7 HL6 HL4 HIW HFU HCT HSL HLC7
  obtain ⟨lb, lo, yv, hae, hlb, hyv, -, -, p2, p3⟩ := HC8.out.cells (j := 7) (by rw [HCL.out]; decide)
  subst hae
  rw [valPropA.2.2.1] at p2
  rw [valPropA.2.2.2] at hyv
  obtain ⟨ya, yc, rfl⟩ : ∃ a c, yv = .slice a 3 c := hyv.slice
  have HYV := Lib.hid hyv
  simp only [Nat.reduceMul] at p2 p3
  rw [HCL.out]
  have hlb8 : lb < w8.heap.size := by omega
  have P2 := Lib.hid p2; have P3 := Lib.hid p3
  clear hyv p2 p3
  go_wp2_with fail
  have hn := Below.new1 w8 (.cells (intsV [3, 0, 1, 2]).toArray 3)
  refine (sameInts_any [3, 0, 1, 2] [3, 0, 1, 2] _ _ _ ((HW8.out.below hn (by omega)).mono (by have := hn.size; omega)) (ints_block (heap_new0 w8 (.cells (intsV [3, 0, 1, 2]).toArray 3)) (by decide)) (Nat.le_refl _)).mono ?_
  rintro e w9 ⟨rfl, hb⟩
  rw [show sameI [3, 0, 1, 2] [3, 0, 1, 2] = true from by decide]
  have HB89 := Lib.hid (hn.trans (hb.mono hn.size))
  have hs9 := HB89.out.size
  clear hb hn
  go_wp2_with fail
  have hn := Below.new1 w9 (.cells (natsV [8, 2, 4, 1]).toArray 56)
  refine (sameDoms_any [8, 2, 4, 1] [8, 2, 4, 1] _ _ _ ((HF8.out.below (HB89.out.trans (hn.mono hs9)) (by omega)).mono (by have := hn.size; omega)) (us_block (heap_new0 w9 (.cells (natsV [8, 2, 4, 1]).toArray 56)) (by decide)) (Nat.le_refl _)).mono ?_
  rintro e w10 ⟨rfl, hb⟩
  rw [show sameN [8, 2, 4, 1] [8, 2, 4, 1] = true from by decide]
  have HB810 := Lib.hid (HB89.out.trans ((hn.trans (hb.mono hn.size)).mono hs9))
  have hs10 := HB810.out.size
  have q2 := ((bcell HB810.out).1 _ _ hlb8).trans P2.out
  have q3 := ((bcell HB810.out).1 _ _ hlb8).trans P3.out
  have hlb10 : lb < w10.heap.size := by omega
  clear hb hn HB89
  go_wp2_with fail
  have hn := Below.new1 w10 (.cells (intsV [3, 4, 6]).toArray 3)
  refine (sameInts_any [3, 4, 6] [3, 4, 6] _ _ _ ((HYV.out.below (HB810.out.trans (hn.mono hs10)) (by omega)).mono (by have := hn.size; omega)) (ints_block (heap_new0 w10 (.cells (intsV [3, 4, 6]).toArray 3)) (by decide)) (Nat.le_refl _)).mono ?_
  rintro e w11 ⟨rfl, hb⟩
  rw [show sameI [3, 4, 6] [3, 4, 6] = true from by decide]
  have HB811 := Lib.hid (HB810.out.trans ((hn.trans (hb.mono hn.size)).mono hs10))
  have hs11 := HB811.out.size
  clear hb hn HB810 q2 q3
  go_wp2_with fail
  have hn := Below.new4 w11 (.cells (intsV [1, 1]).toArray 3) (.cells (intsV [3, 1]).toArray 3) (.cells (intsV [0, 3]).toArray 3) (.cells #[.slice (some ⟨w11.heap.size, 0, none⟩) 2 2, .slice (some ⟨w11.heap.size + 1, 0, none⟩) 2 2, .slice (some ⟨w11.heap.size + 1 + 1, 0, none⟩) 2 2] 39)
  have hk := heap_new4 w11 (.cells (intsV [1, 1]).toArray 3) (.cells (intsV [3, 1]).toArray 3) (.cells (intsV [0, 3]).toArray 3) (.cells #[.slice (some ⟨w11.heap.size, 0, none⟩) 2 2, .slice (some ⟨w11.heap.size + 1, 0, none⟩) 2 2, .slice (some ⟨w11.heap.size + 1 + 1, 0, none⟩) 2 2] 39)
  refine (sameLists_any [[1, 1], [3, 1], [0, 3]] [[1, 1], [3, 1], [0, 3]] _ _ _ ((HS8.out.below (HB811.out.trans (hn.mono hs11)) (by omega)).mono (by have := hn.size; omega)) (lls_three hk.2.2.2 (ints_block hk.1 (by decide)) (ints_block hk.2.1 (by decide)) (ints_block hk.2.2.1 (by decide))) (Nat.le_refl _)).mono ?_
  rintro e w12 ⟨rfl, hb⟩
  rw [show sameL [[1, 1], [3, 1], [0, 3]] [[1, 1], [3, 1], [0, 3]] = true from by decide]
  have HB812 := Lib.hid (HB811.out.trans ((hn.trans (hb.mono hn.size)).mono hs11))
  have hs12 := HB812.out.size
  clear hb hn hk HB811
  go_wp2_with fail
  have hn := Below.new1 w12 (.cells (intsV [0, 1, 2]).toArray 3)
  refine (sameInts_any [0, 1, 2] [0, 1, 2] _ _ _ ((HKI.out.below (HB812.out.trans (hn.mono hs12)) (Nat.le_refl _)).mono (by have := hn.size; omega)) (ints_block (heap_new0 w12 (.cells (intsV [0, 1, 2]).toArray 3)) (by decide)) (Nat.le_refl _)).mono ?_
  rintro e w13 ⟨rfl, hb⟩
  rw [show sameI [0, 1, 2] [0, 1, 2] = true from by decide]
  have HFIN := Lib.hid (HB8.out.trans ((HB812.out.trans ((hn.trans (hb.mono hn.size)).mono hs12)).mono HB8.out.size))
  clear hb hn
  go_wp2
  go_ret
  exact ⟨rfl, HFIN.out⟩
end Go.Proofs.YtdmmegmkdhinjaaGreatDoor
