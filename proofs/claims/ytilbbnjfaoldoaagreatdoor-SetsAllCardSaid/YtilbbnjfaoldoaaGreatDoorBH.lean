/- The reference: Held. · The reference: Holds, all. · The reference's Holds is the program's, in plain Lean. · The reference: one, with, clash, place. · Arguments read as data: from the form's readings to the memory predicates of the walks. -/
import Derived.Test.YtilbbnjfaoldoaaGreatDoorBG
import Derived.Test.YtilbbnjfaoldoaaGreatDoorBC
import Derived.Deep.Slices
import Derived.Deep.Fields
import Derived.ChangeSame
import Derived.SizedLaws
import Derived.Lib.SmallJoins
namespace Go.Proofs.YtilbbnjfaoldoaaGreatDoor
open Go Go.RowKit
attribute [local go_sem] cell_grow u64_sAnd u64_sOr u64_sDiff sDiff_all zeqI zneI sAnd_bit_zero sAnd_bit_zeroN sAnd_bit_nonzero rowOf_grow rowOk_grow rowOf_alloc rowOk_alloc

theorem Tryz.info4 : (Tryz.prog.info? 4).map (fun i => (i.zero, i.size, i.bytes)) = some (some (.bool false), 1, 1) := by kernel_rfl
def boolsV (xs : List Bool) : List Value := xs.map .bool
theorem boolsV_one (xs : List Bool) : ∀ u ∈ boolsV xs, u.oneCell' = true := by intro u hu; obtain ⟨x, _, rfl⟩ := List.mem_map.1 hu; rfl
theorem boolsV_append (xs ys : List Bool) : boolsV xs ++ boolsV ys = boolsV (xs ++ ys) := by simp [boolsV]
theorem ownsRow_bls {w : World} {base : Nat} {v : Value} {xs : List Bool} {n : Nat} (h : w.ownsRow base 4 1 v n (boolsV xs)) (hn : n ≤ 140737488355328) (hl : xs.length = n) : Bls w w.heap.size v xs := by
  subst hl
  exact ownsRow_row h hn fun i hi => by simp [boolsV, blget, show i < xs.length by omega]
def bitsE (own : List Nat) (e : Nat) : List Bool := own.map fun s => bitB s e
theorem bitsE_take_succ (own : List Nat) (e k : Nat) (h : k < own.length) : bitsE (own.take (k + 1)) e = bitsE (own.take k) e ++ [bitB (nget own k) e] := by
  unfold bitsE
  rw [List.take_succ_eq_append_getElem h, List.map_append]
  simp [nget, h]
theorem nget_u64 {l : List Nat} (h : ∀ s ∈ l, U64 s) (i : Nat) : U64 (nget l i) := by
  unfold nget
  by_cases hj : i < l.length
  · rw [List.getElem?_eq_getElem hj]; exact h _ (List.getElem_mem hj)
  · rw [List.getElem?_eq_none (by omega)]; unfold U64; decide
theorem ofN_u64 {vars : List Int} {l : List Nat} (h : ∀ s ∈ l, U64 s) : ∀ s ∈ ofN vars l, U64 s := fun s hs => by
  unfold ofN at hs
  obtain ⟨v, _, rfl⟩ := List.mem_map.1 hs
  exact nget_u64 h _
/-- What a rule that is no SetsCount says of element e. -/
def fitE (r : Rl) (l : List Nat) (e : Nat) : Bool := asksB r.kind (bitB (nget (ofN r.vars l) 0) e) (bitB (nget (ofN r.vars l) 1) e) (bitB (nget (ofN r.vars l) 2) e)
def heldN (r : Rl) (l : List Nat) : Bool := if r.kind = 6 then inB (cntN (nget (ofN r.vars l) 0) 12 : Nat) r.low r.high else (List.range 12).all (fitE r l)
theorem fits_any (r : Rl) (hf : RFit r) (h6 : r.kind ≠ 6) (l : List Nat) (e : Nat) (xv : Value) (w : World) {B : Nat} (hx : Bls w B xv (bitsE (ofN r.vars l) e)) (hB : B ≤ w.heap.size) : Gives Tryz.prog 54 #[.int .i64 r.kind, xv] w (.bool (fitE r l e)) := by
  have hol : (ofN r.vars l).length = r.vars.length := by simp [ofN]
  obtain ⟨own, hown⟩ : ∃ own, own = ofN r.vars l := ⟨_, rfl⟩
  unfold fitE
  rw [← hown] at hx hol ⊢
  rcases hf.1 with ⟨h, _⟩ | ⟨hk, hl⟩ | ⟨hk, hl⟩
  · exact absurd h h6
  · rw [hl] at hol
    match own, hol with
    | [a, b], _ =>
      have e2 : bitB (nget [a, b] 2) e = false := by show (0 : Nat).testBit e = false; exact Nat.zero_testBit e
      rw [e2]
      exact fits2_any r.kind hk (bitB a e) (bitB b e) xv w hx hB
  · rw [hl] at hol
    match own, hol with
    | [a, b, c], _ => exact fits3_any r.kind hk (bitB a e) (bitB b e) (bitB c e) xv w hx hB
set_option maxRecDepth 100000 in
set_option maxHeartbeats 1000000 in
theorem held_any (r : Rl) (hf : RFit r) (l : List Nat) (vv lv : Value) (w : World) {B : Nat} (hv : Ints w B vv r.vars) (hl : Us w B lv l) (hB : B ≤ w.heap.size) (hul : ∀ s ∈ l, U64 s) (hr : ∀ i, i < r.vars.length → 0 ≤ iget r.vars i ∧ iget r.vars i < l.length) :
    Gives Tryz.prog 29 #[.agg #[.int .i64 r.kind, vv, .int .i64 r.low, .int .i64 r.high], lv] w (.bool (heldN r l)) := by
  unfold Gives
  have HV := Lib.hid hv; have HL := Lib.hid hl; have HR := Lib.hid hr; have HF := Lib.hid hf; have HUL := Lib.hid hul
  obtain ⟨va, vc, rfl⟩ := hv.slice
  obtain ⟨la, lc, rfl⟩ := hl.slice
  have h3 : r.vars.length ≤ 3 := by rcases hf.1 with h | h | h <;> omega
  have h1 : 1 ≤ r.vars.length := by rcases hf.1 with h | h | h <;> omega
  obtain ⟨i0, hin, hz0, hz1, hz2⟩ := info_parts Tryz.info4
  clear hv hl hr hf hul
  have K0 := Lib.hid (heap_new0 w (.cells #[.int .i64 r.kind, .slice va r.vars.length vc, .int .i64 r.low, .int .i64 r.high] 62)); have HB0 := Lib.hid (Below.new1 w (.cells #[.int .i64 r.kind, .slice va r.vars.length vc, .int .i64 r.low, .int .i64 r.high] 62))
  go_enter Tryz.func29, Tryz.ntmps29
  go_wp2_with fail
  refine (refOf_any r l _ _ _ (HV.out.below HB0.out hB) (HL.out.below HB0.out hB) (by simp; omega) h3 HR.out).mono ?_
  rintro e w2 ⟨ov, rfl, hus, hb2⟩
  have hol : (ofN r.vars l).length = r.vars.length := by simp [ofN]
  obtain ⟨oa, oc, rfl⟩ := hus.slice
  rw [hol] at hus ⊢
  have k2 := heap_later K0.out hb2 (by simp)
  have z2 : w.heap.size < w2.heap.size := (Array.getElem?_eq_some_iff.1 k2).1
  have huo : ∀ i, U64 (nget (ofN r.vars l) i) := nget_u64 (ofN_u64 HUL.out)
  have HUO := Lib.hid huo
  have HB2 := Lib.hid (HB0.out.trans (hb2.mono HB0.out.size)); have K2 := Lib.hid k2; have HUS := Lib.hid hus
  have c0 : w2.cell? ⟨w.heap.size, 0, none⟩ = some (.int .i64 r.kind) := by rw [cell_of_row _ _ _ _ _ _ k2]; rfl
  have c2 : w2.cell? ⟨w.heap.size, 2, none⟩ = some (.int .i64 r.low) := by rw [cell_of_row _ _ _ _ _ _ k2]; rfl
  have c3 : w2.cell? ⟨w.heap.size, 3, none⟩ = some (.int .i64 r.high) := by rw [cell_of_row _ _ _ _ _ _ k2]; rfl
  clear hus hb2 k2 huo K0 HB0
  by_cases h6 : r.kind = 6
  · have HH : Hid (heldN r l = inB (cntN (nget (ofN r.vars l) 0) 12 : Nat) r.low r.high) := Lib.hid (by unfold heldN; rw [if_pos h6])
    have h6b : (r.kind == 6) = true := by simp [h6]
    obtain ⟨hx0, a', c', hae, _, _, hrow⟩ := HUS.out
    simp only [Value.slice.injEq] at hae
    obtain ⟨rfl, hx, rfl⟩ := hae
    obtain ⟨p, po, rfl, hp, hc⟩ := hrow (by omega)
    have d0 : w2.cell? ⟨p, po, none⟩ = some (.int .u64 ((nget (ofN r.vars l) 0 : Nat) : Int)) := hc 0 (by omega)
    have HCN := Lib.hid (fun (d : Nat) (os : Array Obj) => Gives.of_same (count_any (nget (ofN r.vars l) 0) (Go.Sort.grow (redrawn w2 d) os) (HUO.out 0)))
    have HIN := Lib.hid (fun (n : Int) (d : Nat) (os : Array Obj) => Gives.of_same (in_any n r.low r.high (Go.Sort.grow (redrawn w2 d) os)))
    clear hx hx0 hrow hc h6
    go_wp2_with fail
    refine wp_region_qb (by kernel_rfl) (by kernel_rfl) ?_
    repeat go_big_quiet_step ((first | (with_reducible exact Gives.quiet (HCN.out _ _)) | (with_reducible exact Gives.quiet (HIN.out _ _ _))))
    refine wpQuiet_nil ?_
    intro w3 hb3
    have HB3 := Lib.hid (HB2.out.trans (hb3.mono HB2.out.size))
    clear hb3
    go_wp2
    go_ret
    exact ⟨by rw [HH.out]; rfl, HB3.out⟩
  · have h6b : (r.kind == 6) = false := by simp [h6]
    have H6 := Lib.hid h6
    clear h6
    go_wp2_with fail
    go_loopw [6] (fun i wr => ∃ e : Nat, e ≤ 12 ∧ i = .int .i64 e ∧ (∀ j, j < e → fitE r l j = true) ∧ Below w2.heap.size w2 wr) (fun i _ => 12 - (intOf i).toNat)
    case atStart => exact ⟨0, Nat.zero_le _, rfl, fun j hj => absurd hj (Nat.not_lt_zero _), Below.refl _ _⟩
    case round =>
      obtain ⟨e, he, rfl, hall, hb⟩ := hrel
      obtain ⟨wo, rfl⟩ : ∃ wo : World, wo = wr := ⟨_, rfl⟩
      have HB := Lib.hid hb; have HALL := Lib.hid hall
      have szo := hb.size
      clear hb hall c0 c2 c3
      by_cases hlt : e < 12
      · have hli : decide (((e : Nat) : Int) < 12) = true := by simp; omega
        go_wp2_with fail
        clear hli
        go_loopw [7, 8] (fun yv i wr => ∃ k : Nat, k ≤ r.vars.length ∧ i = .int .i64 k ∧ wr.ownsRow wo.heap.size 4 1 yv k (boolsV (bitsE ((ofN r.vars l).take k) e)) ∧ Below wo.heap.size wo wr) (fun _ i _ => r.vars.length - (intOf i).toNat)
        case atStart => exact ⟨0, Nat.zero_le _, rfl, World.ownsRow_nil _ _ _ _, Below.refl _ _⟩
        case round =>
          obtain ⟨k, hk, rfl, hown, hb⟩ := hrel
          have hbo := HB.out.trans (hb.mono HB.out.size)
          by_cases hkt : k < r.vars.length
          · obtain ⟨hx0, a', c', hae, _, _, hrow⟩ := HUS.out.below hbo (Nat.le_refl _)
            simp only [Value.slice.injEq] at hae
            obtain ⟨rfl, hx, rfl⟩ := hae
            obtain ⟨p, po, rfl, hp, hc⟩ := hrow (by omega)
            have d0 : wr.cell? ⟨p, po + k, none⟩ = some (.int .u64 ((nget (ofN r.vars l) k : Nat) : Int)) := hc k (by omega)
            have hts := bitsE_take_succ (ofN r.vars l) e k (by omega)
            have hu := HUO.out k
            have HOW := Lib.hid hown; have HB3 := Lib.hid hb; have HTS := Lib.hid hts
            clear hx hx0 hrow hc hown hb hbo hts
            go_wp2_with (first | (go_at_call 43; refine (has_any _ e _ hu hlt).mono ?_; rintro e w' ⟨rfl, rfl⟩) | (at_builtin; refine wpList_append_own _ rfl _ _ 95 rfl wo.heap.size 4 i0 (.bool false) 1 1 Tryz.underlying95 hin hz0 hz1 hz2 rfl (by decide) _ _ _ rfl (HOW.out.alloc _) ⟨w'.heap.size, 0, none⟩ 1 1 (boolsV [bitB (nget (ofN r.vars l) k) e]) rfl rfl ?c1 ?c2 ?c3 ?c4 ?c5 ?_))
            case c1 =>
              intro q u hq
              match q, hq with
              | 0, hq => cases hq; rw [Addr.add_lit]; exact cell_of_one (heap_new0 _ _)
            case c2 => exact boolsV_one _
            case c3 => unfold maxLen; omega
            case c4 => omega
            case c5 => have := HB3.out.size; simp; omega
            intro v' w5 hown5 hgrow5 _
            have hb5 := (HB3.out.alloc HB3.out.size (.cells #[.bool (bitB (nget (ofN r.vars l) k) e)] 4)).grown hgrow5 (by have := HB3.out.size; simp; omega) (fun q hq => (HOW.out.lt q hq).1)
            rw [boolsV_append, ← HTS.out] at hown5
            have HO5 := Lib.hid hown5; have HB5 := Lib.hid hb5
            clear hown5 hgrow5 hb5 d0
            go_wp2
            go_roundw
            case rel => exact ⟨k + 1, by omega, by go_num, HO5.out, HB5.out⟩
            case measure => simp [intOf]; omega
          · have hk2 : k = r.vars.length := by omega
            subst hk2
            rw [show (ofN r.vars l).take r.vars.length = ofN r.vars l from List.take_of_length_le (by omega)] at hown
            have hbl := ownsRow_bls hown (by omega) (by simp [bitsE, hol])
            have k2 := heap_later K2.out hbo z2
            have c0 : wr.cell? ⟨w.heap.size, 0, none⟩ = some (.int .i64 r.kind) := by rw [cell_of_row _ _ _ _ _ _ k2]; rfl
            have HBL := Lib.hid hbl; have HBO := Lib.hid hbo
            clear hown hb hbo hbl k2
            go_wp2_with fail
            refine (fits_any r HF.out H6.out l e _ _ HBL.out (Nat.le_refl _)).mono ?_
            rintro q w6 ⟨rfl, hb6⟩
            have HB6 := Lib.hid (HBO.out.trans (hb6.mono HBO.out.size))
            clear hb6
            cases hfe : fitE r l e
            · have HN : Hid (heldN r l = false) := Lib.hid (by
                unfold heldN
                rw [if_neg H6.out, Bool.eq_false_iff]
                intro hc
                have := List.all_eq_true.1 hc e (List.mem_range.2 hlt)
                rw [hfe] at this; cases this)
              have HF2 := Lib.hid (HB2.out.trans (HB6.out.mono HB2.out.size))
              clear hfe
              go_wp2
              go_ret
              exact ⟨by rw [HN.out]; rfl, HF2.out⟩
            · have HFE := Lib.hid hfe
              clear hfe
              go_wp2
              go_roundw
              case rel => exact ⟨e + 1, by omega, by go_num, fun j hj => if h : j = e then h ▸ HFE.out else HALL.out j (by omega), HB6.out⟩
              case measure => simp [intOf]; omega
      · have he2 : e = 12 := by omega
        subst he2
        have HY : Hid (heldN r l = true) := Lib.hid (by
          unfold heldN
          rw [if_neg H6.out, List.all_eq_true]
          exact fun i hi => HALL.out i (List.mem_range.1 hi))
        have HF2 := Lib.hid (HB2.out.trans (HB.out.mono HB2.out.size))
        go_wp2
        go_ret
        exact ⟨by rw [HY.out]; rfl, HF2.out⟩
end Go.Proofs.YtilbbnjfaoldoaaGreatDoor

namespace Go.Proofs.YtilbbnjfaoldoaaGreatDoor
open Go Go.RowKit
attribute [local go_sem] cell_grow u64_sAnd u64_sOr u64_sDiff sDiff_all zeqI zneI sAnd_bit_zero sAnd_bit_zeroN sAnd_bit_nonzero rowOf_grow rowOk_grow rowOf_alloc rowOk_alloc

def notHeld (p : Prob) (l : List Nat) (i : Nat) : Bool := !heldN (rget p.rules i) l
def rHoldsN (p : Prob) (l : List Nat) : Int := if idxOf (notHeld p l) p.rules.length < 0 then p.rules.length else idxOf (notHeld p l) p.rules.length
theorem ruleOk_range {r : Rl} {many : Int} (h : ruleOk r many = true) : ∀ i, i < r.vars.length → 0 ≤ iget r.vars i ∧ iget r.vars i < many := by
  intro i hi
  simp only [ruleOk, Bool.and_eq_true] at h
  have := List.all_eq_true.1 h.1.2 i (List.mem_range.2 hi)
  unfold varOk inB at this
  simp at this
  omega
theorem probOk_range {p : Prob} (h : probOk p = true) (j : Nat) (hj : j < p.rules.length) : ∀ i, i < (rget p.rules j).vars.length → 0 ≤ iget (rget p.rules j).vars i ∧ iget (rget p.rules j).vars i < p.bounds.length := by
  simp only [probOk, Bool.and_eq_true] at h
  exact ruleOk_range (List.all_eq_true.1 h.2 (rget p.rules j) (by unfold rget; rw [List.getElem?_eq_getElem hj]; exact List.getElem_mem hj))
def allOk (p : Prob) (l : List Nat) : Bool := (List.range l.length).all (fun i => setOk (nget l i)) && decide (l.length = p.bounds.length)
end Go.Proofs.YtilbbnjfaoldoaaGreatDoor

namespace Go.Proofs.YtilbbnjfaoldoaaGreatDoor
open Go Go.RowKit

theorem allowed_set (s e : Nat) (b : Bool) : allowedAt (setB s) e b = (b == bitB s e) := by
  unfold allowedAt setB bitB
  cases b
  · simp
  · simp
theorem allowedB2 (a b e m : Nat) : allowedB [setB a, setB b] e m = ((m.testBit 0 == bitB a e) && (m.testBit 1 == bitB b e)) := by
  show (allowedAt (setB a) e (m.testBit 0) && (allowedAt (setB b) e (m.testBit 1) && true)) = _
  rw [allowed_set, allowed_set, Bool.and_true]
theorem allowedB3 (a b c e m : Nat) : allowedB [setB a, setB b, setB c] e m = ((m.testBit 0 == bitB a e) && ((m.testBit 1 == bitB b e) && (m.testBit 2 == bitB c e))) := by
  show (allowedAt (setB a) e (m.testBit 0) && (allowedAt (setB b) e (m.testBit 1) && (allowedAt (setB c) e (m.testBit 2) && true))) = _
  rw [allowed_set, allowed_set, allowed_set, Bool.and_true]
theorem elem2 (a b e : Nat) (k : Int) : elemOk [setB a, setB b] k e = asksB k (bitB a e) (bitB b e) false := by
  unfold elemOk
  show ((List.range 4).any fun mask => allowedB [setB a, setB b] e mask && asksB k (mask.testBit 0) (mask.testBit 1) (mask.testBit 2)) = _
  rw [show List.range 4 = [0, 1, 2, 3] from rfl]
  simp only [List.any_cons, List.any_nil, allowedB2]
  cases bitB a e <;> cases bitB b e
  · show (asksB k false false false || (false || (false || (false || false)))) = _; simp
  · show (false || (false || (asksB k false true false || (false || false)))) = _; simp
  · show (false || (asksB k true false false || (false || (false || false)))) = _; simp
  · show (false || (false || (false || (asksB k true true false || false)))) = _; simp
theorem elem3 (a b c e : Nat) (k : Int) : elemOk [setB a, setB b, setB c] k e = asksB k (bitB a e) (bitB b e) (bitB c e) := by
  unfold elemOk
  show ((List.range 8).any fun mask => allowedB [setB a, setB b, setB c] e mask && asksB k (mask.testBit 0) (mask.testBit 1) (mask.testBit 2)) = _
  rw [show List.range 8 = [0, 1, 2, 3, 4, 5, 6, 7] from rfl]
  simp only [List.any_cons, List.any_nil, allowedB3]
  cases bitB a e <;> cases bitB b e <;> cases bitB c e
  · show (asksB k false false false || (false || (false || (false || (false || (false || (false || (false || false)))))))) = _; simp
  · show (false || (false || (false || (false || (asksB k false false true || (false || (false || (false || false)))))))) = _; simp
  · show (false || (false || (asksB k false true false || (false || (false || (false || (false || (false || false)))))))) = _; simp
  · show (false || (false || (false || (false || (false || (false || (asksB k false true true || (false || false)))))))) = _; simp
  · show (false || (asksB k true false false || (false || (false || (false || (false || (false || (false || false)))))))) = _; simp
  · show (false || (false || (false || (false || (false || (asksB k true false true || (false || (false || false)))))))) = _; simp
  · show (false || (false || (false || (asksB k true true false || (false || (false || (false || (false || false)))))))) = _; simp
  · show (false || (false || (false || (false || (false || (false || (false || (asksB k true true true || false)))))))) = _; simp
theorem bget_setsB (l : List Nat) (i : Nat) : bget (setsB l) i = setB (nget l i) := by
  unfold setsB
  rw [bget_pad]
  unfold bget nget
  by_cases h : i < l.length
  · simp [h]
  · rw [List.getElem?_eq_none (by simp; omega), List.getElem?_eq_none (by omega)]; rfl
theorem ofB_sets (l : List Nat) (vars : List Int) : ofB (setsB l) vars = (ofN vars l).map setB := by
  unfold ofB ofN
  rw [List.map_map]
  apply List.map_congr_left
  intro v _
  exact bget_setsB l v.toNat
theorem sDiff_self (s : Nat) : sDiff s s = 0 := by unfold sDiff; rw [Nat.and_self, Nat.xor_self]
theorem clash_sets (own : List Nat) : clashB (own.map setB) = false := by
  unfold clashB
  rw [Bool.eq_false_iff]
  intro h
  obtain ⟨x, hx, hc⟩ := List.any_eq_true.1 h
  obtain ⟨s, _, rfl⟩ := List.mem_map.1 hx
  unfold clashAt setB at hc
  rw [sDiff_self] at hc
  simp at hc
theorem held_poss (r : Rl) (hf : RFit r) (l : List Nat) (hl : ∀ s ∈ l, s < 4096) : heldN r l = possB (setsB l) r := by
  have hown : ∀ s ∈ ofN r.vars l, s < 4096 := fun s hs => by
    unfold ofN at hs
    obtain ⟨v, _, rfl⟩ := List.mem_map.1 hs
    unfold nget
    by_cases hj : v.toNat < l.length
    · rw [List.getElem?_eq_getElem hj]; exact hl _ (List.getElem_mem hj)
    · rw [List.getElem?_eq_none (by omega)]; decide
  have hol : (ofN r.vars l).length = r.vars.length := by simp [ofN]
  unfold possB possL heldN
  rw [ofB_sets, clash_sets]
  unfold fitE
  generalize ofN r.vars l = own at hown hol
  rcases hf.1 with ⟨h, h1⟩ | ⟨hk, h2⟩ | ⟨hk, h3⟩
  · rw [h1] at hol
    match own, hol with
    | [a], _ =>
      rw [if_pos h, h]
      show inB ((cntN a 12 : Nat) : Int) r.low r.high = (true && (decide ((popc a : Int) ≤ r.high) && decide (r.low ≤ (popc a : Int))))
      have : popc a = cntN a 12 := popc_12 a (hown a (by simp))
      rw [this, Bool.true_and, Bool.and_comm]
      rfl
  · rw [h2] at hol
    have h6 : ¬ r.kind = 6 := by omega
    have h6b : (r.kind == 6) = false := by simp [h6]
    match own, hol with
    | [a, b], _ =>
      rw [if_neg h6, h6b]
      simp only [Bool.not_false, Bool.true_and, Bool.false_eq_true, if_false, List.map_cons, List.map_nil]
      congr 1
      funext e
      rw [elem2]
      show asksB r.kind (bitB a e) (bitB b e) (bitB 0 e) = _
      rw [show bitB 0 e = false from Nat.zero_testBit e]
  · rw [h3] at hol
    have h6 : ¬ r.kind = 6 := by omega
    have h6b : (r.kind == 6) = false := by simp [h6]
    match own, hol with
    | [a, b, c], _ =>
      rw [if_neg h6, h6b]
      simp only [Bool.not_false, Bool.true_and, Bool.false_eq_true, if_false, List.map_cons, List.map_nil]
      congr 1
      funext e
      rw [elem3]
      rfl
theorem find_congr {α : Type} {p q : α → Bool} : ∀ {l : List α}, (∀ x ∈ l, p x = q x) → l.find? p = l.find? q
  | [], _ => rfl
  | x :: l, h => by
    rw [List.find?_cons, List.find?_cons, h x (by simp), find_congr (fun y hy => h y (by simp [hy]))]
theorem idxOf_congr {p q : Nat → Bool} {n : Nat} (h : ∀ i, i < n → p i = q i) : idxOf p n = idxOf q n := by
  have : (List.range n).find? p = (List.range n).find? q := find_congr fun x hx => h x (List.mem_range.1 hx)
  unfold idxOf
  rw [this]
theorem setOk_lt {s : Nat} (h : setOk s = true) : s < 4096 := by unfold setOk at h; simp at h; omega
theorem allOk_iff (p : Prob) (l : List Nat) (hp : probOk p = true) : allOk p l = holdsOk p l := by
  unfold allOk holdsOk
  rw [hp, Bool.true_and]
  have e1 : (List.range l.length).all (fun i => setOk (nget l i)) = !l.any over := by
    rw [← over_any l, List.not_any_eq_all_not]
    congr 1
    funext i
    unfold over
    rw [setOk_iff, Bool.not_not]
  have e2 : decide (l.length = p.bounds.length) = ((l.length : Int) == (p.bounds.length : Int)) := by
    rw [Bool.eq_iff_iff]; simp; omega
  rw [e1, e2, Bool.and_comm]
theorem rHolds_eq (p : Prob) (l : List Nat) (hp : probOk p = true) (ha : allOk p l = true) : rHoldsN p l = holdsR p l := by
  have hok := allOk_iff p l hp
  rw [ha] at hok
  unfold holdsR
  rw [← hok, if_pos rfl]
  have hl : ∀ s ∈ l, s < 4096 := fun s hs => by
    unfold allOk at ha
    rw [Bool.and_eq_true] at ha
    obtain ⟨i, hi, rfl⟩ := List.mem_iff_getElem.1 hs
    have := List.all_eq_true.1 ha.1 i (List.mem_range.2 hi)
    rw [show nget l i = l[i] by simp [nget, hi]] at this
    exact setOk_lt this
  unfold rHoldsN holdsN
  have := idxOf_congr (p := notHeld p l) (q := fun i => !possB (setsB l) (rget p.rules i)) (n := p.rules.length) (fun i hi => by
    unfold notHeld
    rw [held_poss _ ((probOk_fit hp).2.2.2.1 i hi) l hl])
  rw [this]
end Go.Proofs.YtilbbnjfaoldoaaGreatDoor

namespace Go.Proofs.YtilbbnjfaoldoaaGreatDoor
open Go Go.RowKit
attribute [local go_sem] cell_grow u64_sAnd u64_sOr u64_sDiff sDiff_all zeqI zneI sAnd_bit_zero sAnd_bit_zeroN sAnd_bit_nonzero rowOf_grow rowOk_grow rowOf_alloc rowOk_alloc

/-- A row of the call's own that is not empty: its block. -/
theorem own_some {w : World} {base : Nat} {e : TypeId} {sz : Nat} {v : Value} {n : Nat} {xs : List Value} (h : w.ownsRow base e sz v n xs) (h0 : 0 < n) :
    ∃ g cap, ∃ cur : Array Value, v = .slice (some ⟨g, 0, none⟩) n cap ∧ base ≤ g ∧ w.heap[g]? = some (.cells cur e (0, 0)) ∧ n ≤ cap ∧ cap ≤ maxLen ∧ ∀ i, i < n * sz → cur[i]? = xs[i]? := by
  rcases h.2 with ⟨_, h1⟩ | ⟨g, cap, cur, rfl, hb, hg, h1, h2, h3, h4⟩
  · omega
  · refine ⟨g, cap, cur, rfl, hb, hg, h1, h2, fun i hi => ?_⟩
    rw [← h4, List.getElem?_take, if_pos hi]; simp
theorem bnds_own {w : World} {base : Nat} {v : Value} {n : Nat} {b : List Bnd} (h : w.ownsRow base 47 2 v n (bCells b)) (hl : b.length = n) (hn : n ≤ 140737488355328) : Bnds w w.heap.size v b := by
  unfold Bnds
  rw [hl]
  exact ownsRow_row h hn fun i hi => bCells_get b i (by omega)
theorem clashB_yes {b : List Bnd} {k : Nat} (hk : k < b.length) (h : (sDiff (bget b k).inn (bget b k).can == 0) = false) : clashB b = true := by
  unfold clashB
  rw [List.any_eq_true]
  refine ⟨bget b k, by unfold bget; rw [List.getElem?_eq_getElem hk]; exact List.getElem_mem hk, ?_⟩
  unfold clashAt; rw [h]; rfl
theorem clashB_no {b : List Bnd} (h : ∀ j, j < b.length → (sDiff (bget b j).inn (bget b j).can == 0) = true) : clashB b = false := by
  unfold clashB
  rw [Bool.eq_false_iff]
  intro hc
  obtain ⟨x, hx, hc⟩ := List.any_eq_true.1 hc
  obtain ⟨i, hi, rfl⟩ := List.mem_iff_getElem.1 hx
  have := h i hi
  rw [show bget b i = b[i] by simp [bget, hi]] at this
  unfold clashAt at hc
  rw [this] at hc; cases hc
theorem ihas_all_no {xs : List Int} {x : Int} (h : ∀ j, j < xs.length → iget xs j ≠ x) : ihas xs x = false := by
  have := ihas_no (Nat.le_refl xs.length) h
  rwa [List.take_length] at this
theorem ihas_at {xs : List Int} {j : Nat} (hj : j < xs.length) {x : Int} (h : iget xs j = x) : ihas xs x = true := by
  have := ihas_yes (Nat.le_refl xs.length) hj h
  rwa [List.take_length] at this
end Go.Proofs.YtilbbnjfaoldoaaGreatDoor

namespace Go.Proofs.YtilbbnjfaoldoaaGreatDoor
open Go Go.RowKit Go.ChangeShapes Go.WideShapes Go.Deep
section
variable {H : Type} {enc : TypeId × Value → H} {P : Program} {w : World} {held : Bool}
/-- All that a datum weighs is within the form's reach. -/
def Fits (P : Program) (t : TypeId) (d : DataW H) : Prop := ∀ n ∈ d.weights P t, n ≤ reachBytes
theorem Fits.each {ts : List TypeId} {ds : List (DataW H)} (h : ∀ n ∈ DataW.weightsEach P ts ds, n ≤ reachBytes) {j : Nat} {t : TypeId} {d : DataW H} (ht : ts[j]? = some t) (hd : ds[j]? = some d) : Fits P t d :=
  fun n hn => h n (DataW.weights_mem_each ht hd n hn)
theorem mem_weightsAll {e : TypeId} : ∀ {l : List (DataW H)} {d : DataW H}, d ∈ l → ∀ n ∈ d.weights P e, n ∈ DataW.weightsAll P e l
  | d' :: r, d, hd, n, hn => by
    simp only [DataW.weightsAll, List.mem_append]
    rcases List.mem_cons.1 hd with rfl | h
    · exact .inl hn
    · exact .inr (mem_weightsAll h n hn)
theorem Fits.agg {t : TypeId} {fs : Array Field} {ds : List (DataW H)} (ht : P.underlying t = some (.struct fs)) (h : Fits P t (.agg ds)) {j : Nat} {f : Field} {d : DataW H} (hf : fs[j]? = some f) (hd : ds[j]? = some d) : Fits P f.type d := by
  refine Fits.each (ts := fs.toList.map (·.type)) (ds := ds) (fun n hn => h n ?_) (j := j) ?_ hd
  · simpa [DataW.weights, ht] using hn
  · simp [hf]
theorem Fits.elem {t e : TypeId} {ds sp : List (DataW H)} (ht : P.underlying t = some (.slice e)) (h : Fits P t (.slice ds sp)) {d : DataW H} (hd : d ∈ ds) : Fits P e d := fun n hn => h n (by
  simp only [DataW.weights, ht, List.mem_cons, List.mem_append]
  exact .inr (.inl (mem_weightsAll hd n hn)))
theorem Fits.len {t e : TypeId} {ds sp : List (DataW H)} (ht : P.underlying t = some (.slice e)) (h : Fits P t (.slice ds sp)) (hb : 0 < P.bytesOf e) : ds.length ≤ 140737488355328 := by
  have h1 := h ((ds.length + sp.length) * P.bytesOf e) (by simp [DataW.weights, ht])
  have h2 : ds.length * 1 ≤ (ds.length + sp.length) * P.bytesOf e := Nat.mul_le_mul (by omega) hb
  unfold reachBytes at h1
  omega
/-- The value v reads as the datum d. -/
def ReadsAs (enc : TypeId × Value → H) (P : Program) (w : World) (held : Bool) (t : TypeId) (v : Value) (d : DataW H) : Prop := ∃ m pl, DataW.trod enc P w 0 (fun _ => true) held m t [v] = some (d, pl)
theorem lt_of_cell {b o : Nat} {v : Value} (h : w.cell? ⟨b, o, none⟩ = some v) : b < w.heap.size := by
  apply Nat.lt_of_not_le
  intro hge
  unfold World.cell? at h
  simp [Array.getElem?_eq_none hge] at h
theorem row_of_cells {a : Addr} {n cap k : Nat} (hk : 0 < k) (hn : n ≤ 140737488355328) (hle : n ≤ cap) (hm : cap ≤ maxLen) (h : ∀ i, i < n → ∀ j, j < k → ∃ v, w.cell? (a.add (i * k + j)) = some v) :
    Row w w.heap.size k (.slice (some a) n cap) n (fun i => (w.cell? (a.add i)).getD undef) := by
  refine ⟨hn, some a, cap, rfl, hle, hm, fun h0 => ?_⟩
  obtain ⟨b, off, spot⟩ := a
  obtain ⟨v0, h00⟩ := h 0 h0 0 hk
  rw [Nat.zero_mul] at h00
  have hspot : spot = none := by simpa [Addr.add] using World.cell?_spot h00
  subst hspot
  have hb : b < w.heap.size := by
    have : w.cell? ⟨b, off + 0, none⟩ = some v0 := by rw [← add_plain]; exact h00
    exact lt_of_cell this
  refine ⟨b, off, rfl, hb, fun i hi => ?_⟩
  have hq : i / k < n := Nat.div_lt_of_lt_mul (by rw [Nat.mul_comm]; exact hi)
  obtain ⟨v, hv⟩ := h (i / k) hq (i % k) (Nat.mod_lt _ hk)
  rw [Nat.div_add_mod'] at hv
  show w.cell? ⟨b, off + i, none⟩ = some ((w.cell? ((⟨b, off, none⟩ : Addr).add i)).getD undef)
  rw [hv, ← add_plain, hv]; rfl
theorem row_nil (k : Nat) (c : Nat → Value) : Row w w.heap.size k (.slice none 0 0) 0 c := ⟨Nat.zero_le _, none, 0, rfl, Nat.le_refl _, Nat.zero_le _, fun h => absurd h (Nat.lt_irrefl _)⟩
/-- A slice of structs of one-cell fields. -/
theorem open_row {t e : TypeId} {fs : Array Field} {v : Value} {d : DataW H} (ht : P.underlying t = some (.slice e)) (he : P.underlying e = some (.struct fs)) (hone : oneCellFields P fs = true) (hC : P.cellsOf e = fs.size) (hk : 0 < fs.size)
    (hb : 0 < P.bytesOf e) (h : ReadsAs enc P w held t v d) (hw : Fits P t d) :
    ∃ (n : Nat) (c : Nat → Value), Row w w.heap.size fs.size v n c ∧ ∀ i, i < n → ∀ j f, fs[j]? = some f → ∃ y, ReadsAs enc P w held f.type (c (i * fs.size + j)) y ∧ Fits P f.type y := by
  obtain ⟨m, pl, h⟩ := h
  rcases open_slice ht h with ⟨h0, _⟩ | ⟨a, len, cap, m', n', D, Pl, hcs, _, hl, hm, hmm, hx, hi⟩
  · simp only [List.cons.injEq, and_true] at h0
    subst h0
    exact ⟨0, fun _ => undef, row_nil _ _, fun i hi => absurd hi (Nat.not_lt_zero _)⟩
  · simp only [List.cons.injEq, and_true] at hcs
    subst hcs
    simp only [Prod.mk.injEq] at hx
    obtain ⟨rfl, _⟩ := hx
    have hlen := hw.len ht hb
    simp only [List.length_map, List.length_range] at hlen
    simp only [if_true] at hmm
    have key : ∀ i, i < len → ∃ ys : List (DataW H × List MemPlace), D i = .agg (ys.map (·.1)) ∧ ∀ j f, fs[j]? = some f → ∃ v y nn, w.cell? (a.add (i * fs.size + j)) = some v ∧ ys[j]? = some y ∧ DataW.trod enc P w 0 (fun _ => true) held nn f.type [v] = some y := by
      intro i hil
      obtain ⟨cs', hc, ht'⟩ := hi i (by omega)
      rw [hC] at hc
      obtain ⟨ys, nn, _, hy, _, hyl, hf⟩ := DataW.trod_struct he ht'
      obtain ⟨_, hcl, hat⟩ := World.cells?_some hc
      simp only [Prod.mk.injEq] at hy
      refine ⟨ys, hy.1, fun j f hj => ?_⟩
      obtain ⟨ho, hk1⟩ := hone_of hone j f hj
      have hjl : j < fs.size := (Array.getElem?_eq_some_iff.1 hj).1
      have h1 := hf j f hj
      have hone' : (cs'.drop j).take 1 = [cs'[j]'(by omega)] := by rw [List.drop_eq_getElem_cons (by omega)]; rfl
      rw [ho, hk1, hone'] at h1
      have hys : ys[j]? = some (ys[j]'(by omega)) := List.getElem?_eq_getElem (by omega)
      refine ⟨_, _, nn, ?_, hys, h1.trans hys⟩
      rw [← Go.Deep.add_add, hat j hjl, List.getElem?_eq_getElem (by omega)]
    refine ⟨len, _, row_of_cells hk hlen hl hm (fun i hil j hj => ?_), fun i hil j f hj => ?_⟩
    · obtain ⟨ys, _, hf⟩ := key i hil
      obtain ⟨v, _, _, h1, _⟩ := hf j fs[j] (Array.getElem?_eq_getElem hj)
      exact ⟨v, h1⟩
    · obtain ⟨ys, hD, hf⟩ := key i hil
      obtain ⟨v, y, nn, h1, h2, h3⟩ := hf j f hj
      refine ⟨y.1, ?_, ?_⟩
      · rw [h1]; exact ⟨nn, y.2, h3⟩
      · have hfi : Fits P e (D i) := hw.elem ht (List.mem_map.2 ⟨i, List.mem_range.2 hil, rfl⟩)
        rw [hD] at hfi
        exact hfi.agg he hj (by rw [List.getElem?_map, h2]; rfl)
/-- A slice of one-cell elements. -/
theorem open_row1 {t e : TypeId} {v : Value} {d : DataW H} (ht : P.underlying t = some (.slice e)) (hC : P.cellsOf e = 1) (hb : 0 < P.bytesOf e) (h : ReadsAs enc P w held t v d) (hw : Fits P t d) :
    ∃ (n : Nat) (c : Nat → Value), Row w w.heap.size 1 v n c ∧ ∀ i, i < n → ∃ y, ReadsAs enc P w held e (c i) y ∧ Fits P e y := by
  obtain ⟨m, pl, h⟩ := h
  rcases open_slice1 ht hC h with ⟨h0, _⟩ | ⟨a, len, cap, m', n', V, D, Pl, hcs, _, hl, hm, hmm, hx, hi⟩
  · simp only [List.cons.injEq, and_true] at h0
    subst h0
    exact ⟨0, fun _ => undef, row_nil _ _, fun i hi => absurd hi (Nat.not_lt_zero _)⟩
  · simp only [List.cons.injEq, and_true] at hcs
    subst hcs
    simp only [Prod.mk.injEq] at hx
    obtain ⟨rfl, _⟩ := hx
    have hlen := hw.len ht hb
    simp only [List.length_map, List.length_range] at hlen
    simp only [if_true] at hmm
    refine ⟨len, _, row_of_cells (by decide) hlen hl hm (fun i hil j hj => ?_), fun i hil => ?_⟩
    · have : i * 1 + j = i := by omega
      rw [this]; exact ⟨V i, (hi i (by omega)).1⟩
    · refine ⟨D i, ?_, hw.elem ht (List.mem_map.2 ⟨i, List.mem_range.2 hil, rfl⟩)⟩
      rw [(hi i (by omega)).1]
      exact ⟨n', Pl i, (hi i (by omega)).2⟩
theorem reads_int {t : TypeId} {k : IntKind} {v : Value} {d : DataW H} (ht : P.underlying t = some (.int k)) (h : ReadsAs enc P w held t v d) : ∃ n, v = .int k n ∧ (Lit.int k n).wf = true := by
  obtain ⟨m, pl, h⟩ := h
  obtain ⟨n, h1, _, h3⟩ := DataW.trod_int ht h
  simp only [List.cons.injEq, and_true] at h1
  exact ⟨n, h1, h3⟩
theorem reads_bool {t : TypeId} {v : Value} {d : DataW H} (ht : P.underlying t = some .bool) (h : ReadsAs enc P w held t v d) : ∃ b, v = .bool b := by
  obtain ⟨m, pl, h⟩ := h
  obtain ⟨n, h1, _⟩ := DataW.trod_bool ht h
  simp only [List.cons.injEq, and_true] at h1
  exact ⟨n, h1⟩
theorem reads_u64 {t : TypeId} {v : Value} {d : DataW H} (ht : P.underlying t = some (.int .u64)) (h : ReadsAs enc P w held t v d) : ∃ n : Nat, v = .int .u64 (n : Nat) ∧ U64 n := by
  obtain ⟨n, h1, h2⟩ := reads_int ht h
  simp only [Lit.wf, Bool.and_eq_true, decide_eq_true_eq] at h2
  have h3 : 0 ≤ n ∧ n < 18446744073709551616 := by
    have e1 : IntKind.u64.min = 0 := rfl
    have e2 : IntKind.u64.max = 18446744073709551615 := rfl
    omega
  exact ⟨n.toNat, by rw [h1, Int.toNat_of_nonneg h3.1], by unfold U64; omega⟩
end
section
variable {H : Type} {enc : TypeId × Value → H} {w : World} {held : Bool}
theorem Tryz.cellsInt : Tryz.prog.cellsOf 3 = 1 := by kernel_rfl
theorem Tryz.bytesInt : Tryz.prog.bytesOf 3 = 8 := by kernel_rfl
theorem Tryz.cellsU64 : Tryz.prog.cellsOf 38 = 1 := by kernel_rfl
theorem Tryz.bytesU64 : Tryz.prog.bytesOf 38 = 8 := by kernel_rfl
theorem ints_of {v : Value} {d : DataW H} (h : ReadsAs enc Tryz.prog w held 40 v d) (hw : Fits Tryz.prog 40 d) : ∃ xs, Ints w w.heap.size v xs := by
  obtain ⟨n, c, hr, hc⟩ := open_row1 Tryz.underlying40 Tryz.cellsInt (by rw [Tryz.bytesInt]; decide) h hw
  obtain ⟨f, hf⟩ := choose_lt (α := Int) (p := fun i z => c i = .int .i64 z) (fun i hi => by
    obtain ⟨y, hy, _⟩ := hc i hi
    obtain ⟨z, hz, _⟩ := reads_int Tryz.underlying3 hy
    exact ⟨z, hz⟩)
  refine ⟨(List.range n).map f, ?_⟩
  unfold Ints
  rw [List.length_map, List.length_range]
  refine hr.congr fun i hi => ?_
  rw [hf i (by omega)]
  simp [iget, show i < n by omega]
theorem us_of {v : Value} {d : DataW H} (h : ReadsAs enc Tryz.prog w held 35 v d) (hw : Fits Tryz.prog 35 d) : ∃ xs : List Nat, Us w w.heap.size v xs ∧ ∀ s ∈ xs, U64 s := by
  obtain ⟨n, c, hr, hc⟩ := open_row1 Tryz.underlying35 Tryz.cellsU64 (by rw [Tryz.bytesU64]; decide) h hw
  obtain ⟨f, hf⟩ := choose_lt (α := Nat) (p := fun i z => c i = .int .u64 (z : Nat) ∧ U64 z) (fun i hi => by
    obtain ⟨y, hy, _⟩ := hc i hi
    exact reads_u64 Tryz.underlying38 hy)
  refine ⟨(List.range n).map f, ?_, fun s hs => ?_⟩
  · unfold Us
    rw [List.length_map, List.length_range]
    refine hr.congr fun i hi => ?_
    rw [(hf i (by omega)).1]
    simp [nget, show i < n by omega]
  · obtain ⟨i, hi, rfl⟩ := List.mem_map.1 hs
    exact (hf i (List.mem_range.1 hi)).2
end
end Go.Proofs.YtilbbnjfaoldoaaGreatDoor
