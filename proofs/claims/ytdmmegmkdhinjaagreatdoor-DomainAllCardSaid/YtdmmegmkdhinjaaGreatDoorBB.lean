/- Package domain: small functions. · Package domain: the relations of rules, and what is formed. · Package domain: rules, Check. · Package domain: Check. · Package domain: what a relation asks of domains: sums. · Package domain: what a relation asks of domains: sums of two and elements. · Package domain: the memory of choices, a map keyed by a place and what is taken. -/
import Derived.Test.YtdmmegmkdhinjaaGreatDoorBA
import Derived.Laws.StructEq
namespace Go.Proofs.YtdmmegmkdhinjaaGreatDoor
open Go Go.RowKit
attribute [local go_sem] cell_grow u64_sAnd u64_sOr u64_sDiff sDiff_all zeqI zneI sAnd_bit_zero sAnd_bit_zeroN sAnd_bit_nonzero

set_option maxHeartbeats 400000 in
theorem within_any (n l h : Int) (w : World) :
    Calls Tryz.prog 50 #[.int .i64 n, .int .i64 l, .int .i64 h] w fun e w' => e = .returned (.bool (inB n l h)) ∧ w' = w := by
  go_enter Tryz.func50, Tryz.ntmps50
  by_cases h1 : l ≤ n
  all_goals by_cases h2 : n ≤ h
  all_goals go_wp2; go_ret
  all_goals exact ⟨by simp [inB, *], rfl⟩
set_option maxHeartbeats 400000 in
theorem one_any (e : Nat) (w : World) (h1 : e < 64) :
    Calls Tryz.prog 71 #[.int .i64 e] w fun r w' => r = .returned (.int .u64 ((bitN e : Nat) : Int)) ∧ w' = w := by
  have hw := wrap_bit e h1
  go_enter Tryz.func71, Tryz.ntmps71
  go_wp2
  go_ret
  exact ⟨rfl, rfl⟩
set_option maxHeartbeats 400000 in
theorem hasd_any (d : Nat) (v : Int) (w : World) (hd : U64 d) :
    Calls Tryz.prog 81 #[.int .u64 (d : Nat), .int .i64 v] w fun r w' => r = .returned (.bool (hasD d v)) ∧ w' = w := by
  cases hin : inB v 0 15
  case false =>
    have hr : hasD d v = false := by unfold hasD; rw [hin]; rfl
    have HR := Lib.hid hr
    clear hr
    go_enter Tryz.func81, Tryz.ntmps81
    go_wp2_with (go_at_call 50; refine (within_any _ _ _ _).mono ?_; rintro e w' ⟨rfl, rfl⟩)
    go_ret
    exact ⟨by rw [HR.out]; rfl, rfl⟩
  case true =>
    have h0 : 0 ≤ v ∧ v ≤ 15 := by unfold inB at hin; simpa using hin
    obtain ⟨k, rfl⟩ : ∃ k : Nat, v = k := ⟨v.toNat, by omega⟩
    have hk : k < 64 := by omega
    have hr : hasD d (k : Int) = d.testBit k := by unfold hasD; rw [hin, Int.toNat_natCast]; rfl
    have HR := Lib.hid hr
    have hb := U64.bit hk
    clear hr h0
    go_enter Tryz.func81, Tryz.ntmps81
    go_wp2_with (first | (go_at_call 50; refine (within_any _ _ _ _).mono ?_; rintro e w' ⟨rfl, rfl⟩) | (go_at_call 71; refine (one_any _ _ hk).mono ?_; rintro e w' ⟨rfl, rfl⟩))
    go_ret
    exact ⟨by rw [HR.out]; rfl, rfl⟩
theorem every1_any (n lo hi : Int) (p q : Nat) (w : World) (hp : w.cell? ⟨p, 0, none⟩ = some (.int .i64 lo)) (hq : w.cell? ⟨q, 0, none⟩ = some (.int .i64 hi)) :
    Calls Tryz.prog 115 #[.int .i64 n, .pointer (some ⟨p, 0, none⟩), .pointer (some ⟨q, 0, none⟩)] w fun r w' => r = .returned (.bool (!inB n lo hi)) ∧ w' = w := by
  go_enter Tryz.func115, Tryz.ntmps115
  go_wp2_with (go_at_call 50; refine (within_any _ _ _ _).mono ?_; rintro e w' ⟨rfl, rfl⟩)
  go_ret
  exact ⟨rfl, rfl⟩
theorem allB_any (l : List Int) (lo hi : Int) : allB l lo hi = !(List.range l.length).any fun k => !inB (iget l k) lo hi := by
  unfold allB
  rw [Bool.eq_iff_iff, List.all_eq_true, Bool.not_eq_true', Bool.eq_false_iff, ne_eq, List.any_eq_true]
  constructor
  · rintro h ⟨k, hk, hc⟩
    have hk' := List.mem_range.1 hk
    have := h l[k] (List.getElem_mem hk')
    rw [show l[k] = iget l k by simp [iget, hk']] at this
    rw [this] at hc; cases hc
  · intro h x hx
    obtain ⟨k, hk, rfl⟩ := List.mem_iff_getElem.1 hx
    cases hc : inB l[k] lo hi
    · exact absurd ⟨k, List.mem_range.2 hk, by rw [show iget l k = l[k] by simp [iget, hk], hc]; rfl⟩ h
    · rfl
set_option maxHeartbeats 400000 in
theorem every_any (l : List Int) (lo hi : Int) (v : Value) (w : World) {B : Nat} (hr : Ints w B v l) (hB : B ≤ w.heap.size) :
    Gives Tryz.prog 82 #[v, .int .i64 lo, .int .i64 hi] w (.bool (allB l lo hi)) := by
  unfold Gives
  have hb := Below.new2 w (.cells #[.int .i64 lo] 3) (.cells #[.int .i64 hi] 3)
  have hk := heap_new2 w (.cells #[.int .i64 lo] 3) (.cells #[.int .i64 hi] 3)
  have HR := Lib.hid (hr.below hb hB); have HB := Lib.hid hb; have HK := Lib.hid hk
  rw [allB_any]
  obtain ⟨a, c, rfl⟩ := hr.slice
  clear hr hb hk
  go_enter Tryz.func82, Tryz.ntmps82
  go_wp2_with fail
  refine (hasI _ l.length (fun i => .int .i64 (iget l i)) 115 #[.pointer (some ⟨w.heap.size, 0, none⟩), .pointer (some ⟨w.heap.size + 1, 0, none⟩)] (fun k => !inB (iget l k) lo hi) _ HR.out (by have := HB.out.size; omega) (enters_of Tryz.func115 (by kernel_rfl) rfl) ?_).mono ?_
  · intro k hk w' hb'
    have hs : ((w.alloc (.cells #[.int .i64 lo] 3)).alloc (.cells #[.int .i64 hi] 3)).heap.size = w.heap.size + 2 := by simp
    exact Gives.of_same (every1_any _ _ _ _ _ w' ((hb'.cell (p := ⟨w.heap.size, 0, none⟩) (by show w.heap.size < _; omega)).trans (by rw [cell_of_row _ _ _ _ _ _ HK.out.1]; rfl)) ((hb'.cell (p := ⟨w.heap.size + 1, 0, none⟩) (by show w.heap.size + 1 < _; omega)).trans (by rw [cell_of_row _ _ _ _ _ _ HK.out.2]; rfl)))
  · rintro e w2 ⟨rfl, hb2⟩
    have HB2 := Lib.hid (HB.out.trans (hb2.mono HB.out.size))
    clear hb2
    go_wp2
    go_ret
    exact ⟨rfl, HB2.out⟩
end Go.Proofs.YtdmmegmkdhinjaaGreatDoor

namespace Go.Proofs.YtdmmegmkdhinjaaGreatDoor
open Go Go.RowKit
attribute [local go_sem] cell_grow u64_sAnd u64_sOr u64_sDiff sDiff_all zeqI zneI sAnd_bit_zero sAnd_bit_zeroN sAnd_bit_nonzero

def relT (k : Int) : TypeId := if k = 1 then 158 else if k = 2 then 159 else if k = 3 then 160 else 161
def formF (k : Int) : FuncId := if k = 1 then 157 else if k = 2 then 159 else if k = 3 then 162 else 164
def canF (k : Int) : FuncId := if k = 1 then 156 else if k = 2 then 158 else if k = 3 then 161 else 163
set_option maxRecDepth 100000 in
theorem meth_formed (k : Int) (v : Value) (m : Nat) (hm : m = Tryz.prog.types.size + Made.depth) (w : World) : (method m (relT k) v "swingle/domain.formed").run Tryz.prog w = .ok (formF k, v) w := by
  subst hm
  unfold relT formF
  split
  · kernel_rfl
  · split
    · kernel_rfl
    · split
      · kernel_rfl
      · kernel_rfl
set_option maxRecDepth 100000 in
theorem meth_can (k : Int) (v : Value) (m : Nat) (hm : m = Tryz.prog.types.size + Made.depth) (w : World) : (method m (relT k) v "swingle/domain.can").run Tryz.prog w = .ok (canF k, v) w := by
  subst hm
  unfold relT canF
  split
  · kernel_rfl
  · split
    · kernel_rfl
    · split
      · kernel_rfl
      · kernel_rfl
theorem formF_enters (k : Int) (args : Array Value) (w : World) : (callFunc (formF k) args).run Tryz.prog w = .ok (.enter (formF k) args) w := by
  unfold formF
  split
  · exact enters_of Tryz.func157 (by kernel_rfl) rfl args w
  · split
    · exact enters_of Tryz.func159 (by kernel_rfl) rfl args w
    · split
      · exact enters_of Tryz.func162 (by kernel_rfl) rfl args w
      · exact enters_of Tryz.func164 (by kernel_rfl) rfl args w
theorem canF_enters (k : Int) (args : Array Value) (w : World) : (callFunc (canF k) args).run Tryz.prog w = .ok (.enter (canF k) args) w := by
  unfold canF
  split
  · exact enters_of Tryz.func156 (by kernel_rfl) rfl args w
  · split
    · exact enters_of Tryz.func158 (by kernel_rfl) rfl args w
    · split
      · exact enters_of Tryz.func161 (by kernel_rfl) rfl args w
      · exact enters_of Tryz.func163 (by kernel_rfl) rfl args w
/-- A rule as a value. -/
def ruleV (r : Dr) (vv nv : Value) : Value := .agg #[.int .i64 r.kind, vv, nv, .int .i64 r.n]
/-- A rule's slices. -/
structure RuleAt (w : World) (B : Nat) (r : Dr) (vv nv : Value) : Prop where
  vars : Ints w B vv r.vars
  nums : Ints w B nv r.nums
theorem RuleAt.below {w w' : World} {B : Nat} {r : Dr} {vv nv : Value} (h : RuleAt w B r vv nv) {B' : Nat} (hb : Below B' w w') (hB : B ≤ B') : RuleAt w' B r vv nv := ⟨h.vars.below hb hB, h.nums.below hb hB⟩
theorem RuleAt.mono {w : World} {B : Nat} {r : Dr} {vv nv : Value} (h : RuleAt w B r vv nv) {B' : Nat} (hB : B ≤ B') : RuleAt w B' r vv nv := ⟨h.vars.mono hB, h.nums.mono hB⟩
def relV (r : Dr) (vv nv : Value) : Value := if inB r.kind 1 4 then .iface (relT r.kind) (ruleV r vv nv) else .nilIface
theorem kind_cases {k : Int} (h : inB k 1 4 = true) : k = 1 ∨ k = 2 ∨ k = 3 ∨ k = 4 := by
  unfold inB at h
  simp only [Bool.and_eq_true, decide_eq_true_eq] at h
  omega
set_option maxRecDepth 100000 in
set_option maxHeartbeats 1000000 in
theorem relationOf_any (r : Dr) (vv nv : Value) (w : World) {B : Nat} (hr : RuleAt w B r vv nv) :
    Gives Tryz.prog 106 #[ruleV r vv nv] w (relV r vv nv) := by
  obtain ⟨va, vc, rfl⟩ := hr.vars.slice
  obtain ⟨na, nc, rfl⟩ := hr.nums.slice
  unfold Gives ruleV
  have hb0 := Below.new1 w (.cells #[.int .i64 r.kind, .slice va r.vars.length vc, .slice na r.nums.length nc, .int .i64 r.n] 69)
  have HB0 := Lib.hid hb0
  clear hr hb0
  cases hin : inB r.kind 1 4
  case true =>
    have hk := kind_cases hin
    have hrel : relV r (.slice va r.vars.length vc) (.slice na r.nums.length nc) = .iface (relT r.kind) (ruleV r (.slice va r.vars.length vc) (.slice na r.nums.length nc)) := by unfold relV; rw [hin]; rfl
    rw [hrel]
    unfold ruleV
    clear hrel hin
    rcases hk with h | h | h | h
    all_goals
      rw [h]
      go_enter Tryz.func106, Tryz.ntmps106
      go_wp2
      go_ret
      exact ⟨rfl, Below.new1 _ _⟩
  case false =>
    have hrel : relV r (.slice va r.vars.length vc) (.slice na r.nums.length nc) = .nilIface := by unfold relV; rw [hin]; rfl
    rw [hrel]
    have hk : ¬ (1 ≤ r.kind ∧ r.kind ≤ 4) := by
      intro h
      unfold inB at hin
      rw [decide_eq_true h.1, decide_eq_true h.2] at hin
      cases hin
    have e1 : (r.kind == 1) = false := by rw [beq_eq_false_iff_ne]; omega
    have e2 : (r.kind == 2) = false := by rw [beq_eq_false_iff_ne]; omega
    have e3 : (r.kind == 3) = false := by rw [beq_eq_false_iff_ne]; omega
    have e4 : (r.kind == 4) = false := by rw [beq_eq_false_iff_ne]; omega
    clear hrel hin hk
    go_enter Tryz.func106, Tryz.ntmps106
    go_wp2
    go_ret
    exact ⟨rfl, HB0.out⟩
def form1 (r : Dr) (n : Int) : Bool := decide (1 ≤ n) && ((r.nums.length : Int) == n) && allB r.nums (-20) 20
def form2 (r : Dr) (n : Int) : Bool := decide (2 ≤ n) && ((r.nums.length : Int) == 0) && (r.n == 0)
def form3 (r : Dr) (n : Int) : Bool := (n == 2) && inB r.nums.length 1 16 && allB r.nums 0 15 && (r.n == 0)
def form4 (r : Dr) (n : Int) : Bool := (n == 2) && ((r.nums.length : Int) == 0)
set_option maxRecDepth 100000 in
set_option maxHeartbeats 1000000 in
theorem formed1_any (r : Dr) (n : Int) (vv nv : Value) (w : World) {B : Nat} (hr : RuleAt w B r vv nv) (hB : B ≤ w.heap.size) :
    Gives Tryz.prog 157 #[ruleV r vv nv, .int .i64 n] w (.bool (form1 r n)) := by
  obtain ⟨va, vc, rfl⟩ := hr.vars.slice
  obtain ⟨na, nc, rfl⟩ := hr.nums.slice
  unfold Gives ruleV
  have hb0 := Below.new1 w (.cells #[.int .i64 r.kind, .slice va r.vars.length vc, .slice na r.nums.length nc, .int .i64 r.n] 158)
  have HB0 := Lib.hid hb0; have HN := Lib.hid (hr.nums.below hb0 hB)
  clear hr hb0
  by_cases h1 : (1 : Int) ≤ n
  · cases h2 : ((r.nums.length : Int) == n)
    · have HF : Hid (form1 r n = false) := Lib.hid (by unfold form1; rw [h2]; simp)
      go_enter Tryz.func157, Tryz.ntmps157
      go_wp2
      go_ret
      rw [HF.out]
      exact ⟨by first | rfl | (rw [zeqI]; rfl), HB0.out⟩
    · have HF : Hid (form1 r n = allB r.nums (-20) 20) := Lib.hid (by unfold form1; rw [h2, decide_eq_true h1]; rfl)
      go_enter Tryz.func157, Tryz.ntmps157
      go_wp2_with fail
      refine (every_any r.nums (-20) 20 _ _ HN.out (by simp; omega)).mono ?_
      rintro e w2 ⟨rfl, hb2⟩
      have HB2 := Lib.hid (HB0.out.trans (hb2.mono HB0.out.size))
      clear hb2
      go_wp2
      go_ret
      rw [HF.out]
      exact ⟨rfl, HB2.out⟩
  · have HF : Hid (form1 r n = false) := Lib.hid (by unfold form1; rw [decide_eq_false h1]; rfl)
    go_enter Tryz.func157, Tryz.ntmps157
    go_wp2
    go_ret
    rw [HF.out]
    exact ⟨by first | rfl | (rw [zeqI]; rfl), HB0.out⟩
set_option maxRecDepth 100000 in
set_option maxHeartbeats 1000000 in
theorem formed2_any (r : Dr) (n : Int) (vv nv : Value) (w : World) {B : Nat} (hr : RuleAt w B r vv nv) :
    Gives Tryz.prog 159 #[ruleV r vv nv, .int .i64 n] w (.bool (form2 r n)) := by
  obtain ⟨va, vc, rfl⟩ := hr.vars.slice
  obtain ⟨na, nc, rfl⟩ := hr.nums.slice
  unfold Gives ruleV
  have HB0 := Lib.hid (Below.new1 w (.cells #[.int .i64 r.kind, .slice va r.vars.length vc, .slice na r.nums.length nc, .int .i64 r.n] 159))
  clear hr
  by_cases h1 : (2 : Int) ≤ n
  · cases h2 : ((r.nums.length : Int) == 0)
    · have HF : Hid (form2 r n = false) := Lib.hid (by unfold form2; rw [h2]; simp)
      go_enter Tryz.func159, Tryz.ntmps159
      go_wp2
      go_ret
      rw [HF.out]
      exact ⟨by first | rfl | (rw [zeqI]; rfl), HB0.out⟩
    · have HF : Hid (form2 r n = (r.n == 0)) := Lib.hid (by unfold form2; rw [h2, decide_eq_true h1]; rfl)
      go_enter Tryz.func159, Tryz.ntmps159
      go_wp2
      go_ret
      rw [HF.out]
      exact ⟨by first | rfl | (rw [zeqI]; rfl), HB0.out⟩
  · have HF : Hid (form2 r n = false) := Lib.hid (by unfold form2; rw [decide_eq_false h1]; rfl)
    go_enter Tryz.func159, Tryz.ntmps159
    go_wp2
    go_ret
    rw [HF.out]
    exact ⟨by first | rfl | (rw [zeqI]; rfl), HB0.out⟩
set_option maxRecDepth 100000 in
set_option maxHeartbeats 1000000 in
theorem formed4_any (r : Dr) (n : Int) (vv nv : Value) (w : World) {B : Nat} (hr : RuleAt w B r vv nv) :
    Gives Tryz.prog 164 #[ruleV r vv nv, .int .i64 n] w (.bool (form4 r n)) := by
  obtain ⟨va, vc, rfl⟩ := hr.vars.slice
  obtain ⟨na, nc, rfl⟩ := hr.nums.slice
  unfold Gives ruleV
  have HB0 := Lib.hid (Below.new1 w (.cells #[.int .i64 r.kind, .slice va r.vars.length vc, .slice na r.nums.length nc, .int .i64 r.n] 161))
  clear hr
  cases h1 : (n == 2)
  · have HF : Hid (form4 r n = false) := Lib.hid (by unfold form4; rw [h1]; rfl)
    go_enter Tryz.func164, Tryz.ntmps164
    go_wp2
    go_ret
    rw [HF.out]
    exact ⟨by first | rfl | (rw [zeqI]; rfl), HB0.out⟩
  · have HF : Hid (form4 r n = ((r.nums.length : Int) == 0)) := Lib.hid (by unfold form4; rw [h1]; rfl)
    go_enter Tryz.func164, Tryz.ntmps164
    go_wp2
    go_ret
    rw [HF.out]
    exact ⟨by first | rfl | (rw [zeqI]; rfl), HB0.out⟩
set_option maxRecDepth 100000 in
set_option maxHeartbeats 1000000 in
theorem formed3_any (r : Dr) (n : Int) (vv nv : Value) (w : World) {B : Nat} (hr : RuleAt w B r vv nv) (hB : B ≤ w.heap.size) :
    Gives Tryz.prog 162 #[ruleV r vv nv, .int .i64 n] w (.bool (form3 r n)) := by
  obtain ⟨va, vc, rfl⟩ := hr.vars.slice
  obtain ⟨na, nc, rfl⟩ := hr.nums.slice
  unfold Gives ruleV
  have hb0 := Below.new1 w (.cells #[.int .i64 r.kind, .slice va r.vars.length vc, .slice na r.nums.length nc, .int .i64 r.n] 160)
  have HB0 := Lib.hid hb0; have HN := Lib.hid (hr.nums.below hb0 hB)
  clear hr hb0
  cases h1 : (n == 2)
  · have HF : Hid (form3 r n = false) := Lib.hid (by unfold form3; rw [h1]; rfl)
    go_enter Tryz.func162, Tryz.ntmps162
    go_wp2
    go_ret
    rw [HF.out]
    exact ⟨by first | rfl | (rw [zeqI]; rfl), HB0.out⟩
  · cases h2 : inB r.nums.length 1 16
    · have HF : Hid (form3 r n = false) := Lib.hid (by unfold form3; rw [h1, h2]; rfl)
      go_enter Tryz.func162, Tryz.ntmps162
      go_wp2_with (go_at_call 50; refine (within_any _ _ _ _).mono ?_; rintro e w' ⟨rfl, rfl⟩)
      go_ret
      rw [HF.out]
      exact ⟨rfl, HB0.out⟩
    · cases h3 : allB r.nums 0 15
      all_goals
        have HF : Hid (form3 r n = (allB r.nums 0 15 && (r.n == 0))) := Lib.hid (by unfold form3; rw [h1, h2]; rfl)
        have HE := Lib.hid (every_any r.nums 0 15 _ _ HN.out (show B ≤ _ by simp; omega))
        rw [h3] at HF HE
        go_enter Tryz.func162, Tryz.ntmps162
        go_wp2_with (first | (go_at_call 50; refine (within_any _ _ _ _).mono ?_; rintro e w' ⟨rfl, rfl⟩) | fail)
        refine HE.out.mono ?_
        rintro e w2 ⟨rfl, hb2⟩
        have HB2 := Lib.hid (HB0.out.trans (hb2.mono HB0.out.size))
        have hk2 := heap_later (heap_new0 w (.cells #[.int .i64 r.kind, .slice va r.vars.length vc, .slice na r.nums.length nc, .int .i64 r.n] 160)) hb2 (by simp)
        have q3 : w2.cell? ⟨w.heap.size, 3, none⟩ = some (.int .i64 r.n) := by rw [cell_of_row _ _ _ _ _ _ hk2]; rfl
        clear hb2 hk2
        go_wp2
        go_ret
        rw [HF.out]
        exact ⟨rfl, HB2.out⟩
end Go.Proofs.YtdmmegmkdhinjaaGreatDoor

namespace Go.Proofs.YtdmmegmkdhinjaaGreatDoor
open Go Go.RowKit
attribute [local go_sem] cell_grow u64_sAnd u64_sOr u64_sDiff sDiff_all zeqI zneI sAnd_bit_zero sAnd_bit_zeroN sAnd_bit_nonzero

def formK (r : Dr) (n : Int) : Bool := if r.kind = 1 then form1 r n else if r.kind = 2 then form2 r n else if r.kind = 3 then form3 r n else form4 r n
theorem formD_k {r : Dr} (h : inB r.kind 1 4 = true) : formD r = formK r r.vars.length := by
  unfold formD formK form1 form2 form3 form4
  rcases kind_cases h with h | h | h | h <;> simp [h]
theorem formed_any (r : Dr) (hk : inB r.kind 1 4 = true) (n : Int) (vv nv : Value) (w : World) {B : Nat} (hr : RuleAt w B r vv nv) (hB : B ≤ w.heap.size) :
    Gives Tryz.prog (formF r.kind) #[ruleV r vv nv, .int .i64 n] w (.bool (formK r n)) := by
  unfold formF formK
  rcases kind_cases hk with h | h | h | h
  · rw [if_pos h, if_pos h]; exact formed1_any r n vv nv w hr hB
  · rw [if_neg (by omega), if_pos h, if_neg (by omega), if_pos h]; exact formed2_any r n vv nv w hr
  · rw [if_neg (by omega), if_neg (by omega), if_pos h, if_neg (by omega), if_neg (by omega), if_pos h]; exact formed3_any r n vv nv w hr hB
  · rw [if_neg (by omega), if_neg (by omega), if_neg (by omega), if_neg (by omega), if_neg (by omega), if_neg (by omega)]; exact formed4_any r n vv nv w hr
theorem ruleD_no {r : Dr} {n : Int} (h : inB r.kind 1 4 = false) : ruleD r n = false := by unfold ruleD; rw [h]; rfl
set_option maxRecDepth 100000 in
set_option maxHeartbeats 2000000 in
theorem rule_any (r : Dr) (n : Int) (vv nv : Value) (w : World) {B : Nat} (hr : RuleAt w B r vv nv) (hB : B ≤ w.heap.size) (hn0 : 0 ≤ n) (hn : n ≤ 100) :
    Gives Tryz.prog 73 #[ruleV r vv nv, .int .i64 n] w (.bool (ruleD r n)) := by
  obtain ⟨va, vc, rfl⟩ := hr.vars.slice
  obtain ⟨na, nc, rfl⟩ := hr.nums.slice
  unfold Gives
  have hb0 := Below.new1 w (.cells #[.int .i64 r.kind, .slice va r.vars.length vc, .slice na r.nums.length nc, .int .i64 r.n] 69)
  have hrel := relationOf_any r _ _ _ (hr.below hb0 hB)
  have HB0 := Lib.hid hb0; have HR := Lib.hid (hr.below hb0 hB); have HREL := Lib.hid hrel
  have HK0 := Lib.hid (heap_new0 w (.cells #[.int .i64 r.kind, .slice va r.vars.length vc, .slice na r.nums.length nc, .int .i64 r.n] 69))
  unfold ruleV
  unfold ruleV at HREL
  clear hr hb0 hrel
  go_enter Tryz.func73, Tryz.ntmps73
  go_wp2_with fail
  refine HREL.out.mono ?_
  rintro e w1 ⟨rfl, hb1⟩
  have HB1 := Lib.hid (HB0.out.trans (hb1.mono (by simp))); have HR1 := Lib.hid (HR.out.below hb1 (by simp; omega)); have HK1 := Lib.hid (heap_later HK0.out hb1 (by simp))
  have hs1 : w.heap.size < w1.heap.size := (Array.getElem?_eq_some_iff.1 HK1.out).1
  clear hb1 HREL HK0 HR
  cases hin : inB r.kind 1 4
  case false =>
    have HF := Lib.hid (ruleD_no (n := n) hin)
    have hv : relV r (.slice va r.vars.length vc) (.slice na r.nums.length nc) = .nilIface := by unfold relV; rw [hin]; rfl
    rw [hv]
    clear hin hv
    go_wp2
    go_ret
    exact ⟨by rw [HF.out]; rfl, HB1.out⟩
  case true =>
    have hv : relV r (.slice va r.vars.length vc) (.slice na r.nums.length nc) = .iface (relT r.kind) (ruleV r (.slice va r.vars.length vc) (.slice na r.nums.length nc)) := by unfold relV; rw [hin]; rfl
    rw [hv]
    have HM := Lib.hid (fun m hm w => meth_formed r.kind (ruleV r (.slice va r.vars.length vc) (.slice na r.nums.length nc)) m hm w)
    have HEN := Lib.hid (formF_enters r.kind)
    have HIN := Lib.hid hin
    have k0 : w1.cell? ⟨w.heap.size, 1, none⟩ = some (.slice va r.vars.length vc) := by rw [cell_of_row _ _ _ _ _ _ HK1.out]; rfl
    have k3 : w1.cell? ⟨w.heap.size, 3, none⟩ = some (.int .i64 r.n) := by rw [cell_of_row _ _ _ _ _ _ HK1.out]; rfl
    obtain ⟨T, hT⟩ : ∃ T, T = relT r.kind := ⟨_, rfl⟩
    obtain ⟨x, hx⟩ : ∃ x, x = ruleV r (.slice va r.vars.length vc) (.slice na r.nums.length nc) := ⟨_, rfl⟩
    obtain ⟨F, hF⟩ : ∃ F, F = formF r.kind := ⟨_, rfl⟩
    rw [← hT, ← hx, ← hF] at HM
    rw [← hF] at HEN
    rw [← hT, ← hx]
    have HFF := Lib.hid hF
    have HX := Lib.hid hx
    clear hin hv hT hx hF
    by_cases h4 : (4 : Int) < ((r.vars.length : Nat) : Int)
    · have HF : Hid (ruleD r n = false) := Lib.hid (by unfold ruleD; rw [decide_eq_false (show ¬ (r.vars.length : Int) ≤ 4 by omega)]; simp)
      go_wp2
      go_ret
      exact ⟨by rw [HF.out]; rfl, HB1.out⟩
    · have HD4 := Lib.hid (show decide ((r.vars.length : Int) ≤ 4) = true from decide_eq_true (by omega))
      go_wp2_with fail
      refine (every_any r.vars 0 (n - 1) _ _ HR1.out.vars (by omega)).mono ?_
      rintro e w2 ⟨rfl, hb2⟩
      have HB2 := Lib.hid (HB1.out.trans (hb2.mono (by omega))); have HR2 := Lib.hid (HR1.out.below hb2 (by omega)); have HK2 := Lib.hid (heap_later HK1.out hb2 hs1)
      have hs2 : w.heap.size < w2.heap.size := (Array.getElem?_eq_some_iff.1 HK2.out).1
      have hs12 := hb2.size
      have k2 : w2.cell? ⟨w.heap.size, 1, none⟩ = some (.slice va r.vars.length vc) := by rw [cell_of_row _ _ _ _ _ _ HK2.out]; rfl
      have k3' : w2.cell? ⟨w.heap.size, 3, none⟩ = some (.int .i64 r.n) := by rw [cell_of_row _ _ _ _ _ _ HK2.out]; rfl
      clear hb2 k0 k3
      cases hev : allB r.vars 0 (n - 1)
      case false =>
        have HF : Hid (ruleD r n = false) := Lib.hid (by unfold ruleD; rw [hev]; simp)
        clear hev
        go_wp2
        go_ret
        exact ⟨by rw [HF.out]; rfl, HB2.out⟩
      case true =>
        cases hnn : inB r.n (-1000) 1000
        case false =>
          have HF : Hid (ruleD r n = false) := Lib.hid (by unfold ruleD; rw [hnn]; simp)
          clear hev
          go_wp2_with (go_at_call 50; refine (within_any _ _ _ _).mono ?_; rintro e w' ⟨rfl, hww⟩; rw [hww]; clear hww w')
          go_ret
          exact ⟨by rw [HF.out]; rfl, HB2.out⟩
        case true =>
          have HDD : Hid (ruleD r n = (distinctD r.vars && formK r r.vars.length)) := Lib.hid (by unfold ruleD; rw [HIN.out, HD4.out, hev, hnn, formD_k HIN.out]; rfl)
          clear hev
          go_wp2_with (go_at_call 50; refine (within_any _ _ _ _).mono ?_; rintro e w' ⟨rfl, hww⟩; rw [hww]; clear hww w')
          clear hnn
          have hvars := HR2.out.vars
          obtain ⟨_, a', c', hae, hvc, hcm, hvr⟩ := hvars
          cases hae
          have HVR := Lib.hid hvr
          clear hvr
          go_loopw [35] (fun iv wr => ∃ k : Nat, k ≤ r.vars.length ∧ iv = .int .i64 k ∧ (∀ j, j < k → ihas (r.vars.take j) (iget r.vars j) = false) ∧ w2 = wr) (fun iv _ => r.vars.length - (intOf iv).toNat)
          case atStart => exact ⟨0, Nat.zero_le _, rfl, fun j hj => absurd hj (Nat.not_lt_zero _), rfl⟩
          case round =>
            obtain ⟨k, hk, rfl, hall, hw⟩ := hrel
            subst hw
            have HALL := Lib.hid hall
            clear hall
            by_cases hlt : k < r.vars.length
            · obtain ⟨b, off, rfl, hbs, hcell⟩ := HVR.out (by omega)
              have c0 := hcell k (by omega)
              have ht : Ints w2 w2.heap.size (.slice (some ⟨b, off, none⟩) k vc) (r.vars.take k) := (HR2.out.vars.take (by omega)).mono (by omega)
              have HT := Lib.hid ht
              have hkc : k ≤ vc := by omega
              clear hcell ht
              cases hco : ihas (r.vars.take k) (iget r.vars k)
              · go_wp2_with (go_at_call 80; refine (contains_ints _ _ _ _ HT.out).mono ?_; rintro e w' ⟨rfl, hww⟩; rw [hww]; clear hww w')
                go_roundw
                case rel => exact ⟨k + 1, by omega, by go_num, fun j hj => if h : j = k then by subst h; exact hco else HALL.out j (by omega), by first | rfl | trivial⟩
                case measure => simp [intOf]; omega
              · have HF : Hid (ruleD r n = false) := Lib.hid (by
                  rw [HDD.out]
                  have : distinctD r.vars = false := by
                    unfold distinctD
                    rw [Bool.eq_false_iff]
                    intro hc
                    have := List.all_eq_true.1 hc k (List.mem_range.2 hlt)
                    rw [hco] at this; cases this
                  rw [this]; rfl)
                go_wp2_with (go_at_call 80; refine (contains_ints _ _ _ _ HT.out).mono ?_; rintro e w' ⟨rfl, hww⟩; rw [hww]; clear hww w')
                go_ret
                exact ⟨by rw [HF.out]; rfl, HB2.out⟩
            · have hk2 : k = r.vars.length := by omega
              subst hk2
              have HF : Hid (ruleD r n = formK r r.vars.length) := Lib.hid (by
                rw [HDD.out]
                have : distinctD r.vars = true := by
                  unfold distinctD
                  rw [List.all_eq_true]
                  intro i hi
                  rw [HALL.out i (List.mem_range.1 hi)]; rfl
                rw [this]; rfl)
              have hfo := formed_any r HIN.out r.vars.length _ _ w2 HR2.out (by omega)
              have HFO := Lib.hid hfo
              have hx' : ruleV r (.slice va r.vars.length vc) (.slice na r.nums.length nc) = x := HX.out.symm
              rw [hx', ← HFF.out] at HFO
              clear hfo hx'
              go_wp2_with fail
              rw [HM.out _ (by kernel_rfl)]
              simp only [Result.andThen_ok, HEN.out]
              go_wp2_with fail
              refine HFO.out.mono ?_
              rintro e w3 ⟨rfl, hb3⟩
              have HB3 := Lib.hid (HB2.out.trans (hb3.mono HB2.out.size))
              clear hb3
              go_wp2
              go_ret
              exact ⟨by rw [HF.out]; rfl, HB3.out⟩
end Go.Proofs.YtdmmegmkdhinjaaGreatDoor

namespace Go.Proofs.YtdmmegmkdhinjaaGreatDoor
open Go Go.RowKit
attribute [local go_sem] cell_grow u64_sAnd u64_sOr u64_sDiff sDiff_all zeqI zneI sAnd_bit_zero sAnd_bit_zeroN sAnd_bit_nonzero

/-- A slice of rules. -/
def DRls (w : World) (B : Nat) (v : Value) (rs : List Dr) : Prop := ∃ c, Row w B 4 v rs.length c ∧ ∀ i, i < rs.length →
  c (i * 4) = .int .i64 (drget rs i).kind ∧ Ints w B (c (i * 4 + 1)) (drget rs i).vars ∧ Ints w B (c (i * 4 + 2)) (drget rs i).nums ∧ c (i * 4 + 3) = .int .i64 (drget rs i).n
theorem DRls.below {w w' : World} {B : Nat} {v : Value} {xs : List Dr} (h : DRls w B v xs) {B' : Nat} (hb : Below B' w w') (hB : B ≤ B') : DRls w' B v xs :=
  let ⟨c, hr, hc⟩ := h
  ⟨c, hr.below hb hB, fun i hi => let ⟨h1, h2, h3, h4⟩ := hc i hi; ⟨h1, h2.below hb hB, h3.below hb hB, h4⟩⟩
theorem DRls.mono {w : World} {B : Nat} {v : Value} {xs : List Dr} (h : DRls w B v xs) {B' : Nat} (hB : B ≤ B') : DRls w B' v xs :=
  let ⟨c, hr, hc⟩ := h
  ⟨c, hr.mono hB, fun i hi => let ⟨h1, h2, h3, h4⟩ := hc i hi; ⟨h1, h2.mono hB, h3.mono hB, h4⟩⟩
theorem DRls.slice {w : World} {B : Nat} {v : Value} {rs : List Dr} (h : DRls w B v rs) : ∃ a c, v = .slice a rs.length c := by obtain ⟨c, ⟨_, a, cap, rfl, _⟩, _⟩ := h; exact ⟨_, _, rfl⟩
theorem DRls.len {w : World} {B : Nat} {v : Value} {rs : List Dr} (h : DRls w B v rs) : rs.length ≤ 140737488355328 := by obtain ⟨c, ⟨h, _⟩, _⟩ := h; exact h
theorem DRls.cells {w : World} {B : Nat} {a : Option Addr} {n cap : Nat} {rs : List Dr} (h : DRls w B (.slice a n cap) rs) {j : Nat} (hj : j < rs.length) :
    ∃ b off vv nv, a = some ⟨b, off, none⟩ ∧ b < B ∧ RuleAt w B (drget rs j) vv nv ∧ w.cell? ⟨b, off + j * 4, none⟩ = some (.int .i64 (drget rs j).kind) ∧ w.cell? ⟨b, off + j * 4 + 1, none⟩ = some vv ∧ w.cell? ⟨b, off + j * 4 + 2, none⟩ = some nv ∧ w.cell? ⟨b, off + j * 4 + 3, none⟩ = some (.int .i64 (drget rs j).n) := by
  obtain ⟨c, ⟨_, a', cap', hv, _, _, hr⟩, hc⟩ := h
  cases hv
  obtain ⟨b, off, ha, hb, hcell⟩ := hr (by omega)
  obtain ⟨e1, e2, e3, e4⟩ := hc j hj
  refine ⟨b, off, _, _, ha, hb, ⟨e2, e3⟩, by rw [hcell _ (by omega), e1], by rw [Nat.add_assoc, hcell _ (by omega)], by rw [Nat.add_assoc, hcell _ (by omega)], by rw [Nat.add_assoc, hcell _ (by omega), e4]⟩
def errOf (ok : Bool) : Int := if ok then 0 else 2
def domOk (d : Nat) : Bool := decide (d < 65536)
theorem probD_no0 {p : Dp} (h : inB p.doms.length 1 8 = false) : probD p = false := by unfold probD; rw [h]; rfl
theorem probD_no1 {p : Dp} (h : ¬ (p.rules.length : Int) ≤ 12) : probD p = false := by unfold probD; rw [decide_eq_false h]; simp
theorem probD_no2 {p : Dp} {k : Nat} (hk : k < p.doms.length) (h : ¬ nget p.doms k < 65536) : probD p = false := by
  have : p.doms.all (fun d => decide (d < 65536)) = false := by
    rw [Bool.eq_false_iff]; intro hc; rw [List.all_eq_true] at hc
    have := hc p.doms[k] (List.getElem_mem hk)
    rw [show p.doms[k] = nget p.doms k by simp [nget, hk], decide_eq_true_eq] at this
    exact h this
  unfold probD; rw [this]; simp
theorem probD_no3 {p : Dp} {k : Nat} (hk : k < p.rules.length) (h : ruleD (drget p.rules k) p.doms.length = false) : probD p = false := by
  have : (p.rules.all fun r => ruleD r p.doms.length) = false := by
    rw [Bool.eq_false_iff]; intro hc; rw [List.all_eq_true] at hc
    have := hc p.rules[k] (List.getElem_mem hk)
    rw [show p.rules[k] = drget p.rules k by simp [drget, hk], h] at this; cases this
  unfold probD; rw [this]; simp
theorem probD_yes {p : Dp} (h0 : inB p.doms.length 1 8 = true) (h1 : (p.rules.length : Int) ≤ 12) (h2 : ∀ j, j < p.doms.length → nget p.doms j < 65536) (h3 : ∀ j, j < p.rules.length → ruleD (drget p.rules j) p.doms.length = true) : probD p = true := by
  unfold probD
  rw [h0, decide_eq_true h1]
  have e2 : p.doms.all (fun d => decide (d < 65536)) = true := by
    rw [List.all_eq_true]; intro b hb
    obtain ⟨k, hk, rfl⟩ := List.mem_iff_getElem.1 hb
    have := h2 k hk
    rw [show nget p.doms k = p.doms[k] by simp [nget, hk]] at this
    exact decide_eq_true this
  have e3 : (p.rules.all fun r => ruleD r p.doms.length) = true := by
    rw [List.all_eq_true]; intro r hr
    obtain ⟨k, hk, rfl⟩ := List.mem_iff_getElem.1 hr
    have := h3 k hk
    rwa [show drget p.rules k = p.rules[k] by simp [drget, hk]] at this
  rw [e2, e3]; rfl
def U64l (l : List Nat) : Prop := ∀ x ∈ l, U64 x
theorem U64l.get {l : List Nat} (h : U64l l) (i : Nat) : U64 (nget l i) := by
  unfold nget
  by_cases hi : i < l.length
  · rw [List.getElem?_eq_getElem hi]; exact h _ (List.getElem_mem hi)
  · rw [List.getElem?_eq_none (by omega)]; show (0 : Nat) < _; decide
set_option maxRecDepth 100000 in
set_option maxHeartbeats 2000000 in
theorem check_any (p : Dp) (dv rv : Value) (w : World) {B : Nat} (hdv : Us w B dv p.doms) (hrv : DRls w B rv p.rules) (hB : B ≤ w.heap.size) :
    Gives Tryz.prog 42 #[.agg #[dv, rv]] w (.int .i64 (errOf (probD p))) := by
  unfold Gives
  obtain ⟨da, dc, rfl⟩ := hdv.slice
  obtain ⟨ra, rc, rfl⟩ := hrv.slice
  have hrl := hrv.len
  have hb0 := Below.new1 w (.cells #[.slice da p.doms.length dc, .slice ra p.rules.length rc] 25)
  have hk0 := heap_new0 w (.cells #[.slice da p.doms.length dc, .slice ra p.rules.length rc] 25)
  have HB0 := Lib.hid hb0; have HK0 := Lib.hid hk0; have HDV := Lib.hid hdv; have HRV := Lib.hid hrv
  clear hb0 hk0 hdv hrv
  cases hin : inB p.doms.length 1 8
  case false =>
    have HF := Lib.hid (probD_no0 hin)
    go_enter Tryz.func42, Tryz.ntmps42
    go_wp2_with (go_at_call 50; refine (within_any _ _ _ _).mono ?_; rintro e w' ⟨rfl, hww⟩; rw [hww]; clear hww w')
    go_ret
    exact ⟨by rw [HF.out]; rfl, HB0.out⟩
  case true =>
    by_cases h12 : (12 : Int) < ((p.rules.length : Nat) : Int)
    · have HF := Lib.hid (probD_no1 (p := p) (show ¬ (p.rules.length : Int) ≤ 12 by omega))
      go_enter Tryz.func42, Tryz.ntmps42
      go_wp2_with (go_at_call 50; refine (within_any _ _ _ _).mono ?_; rintro e w' ⟨rfl, hww⟩; rw [hww]; clear hww w')
      go_ret
      exact ⟨by rw [HF.out]; rfl, HB0.out⟩
    · have hd8 : p.doms.length ≤ 8 := by
        unfold inB at hin
        simp only [Bool.and_eq_true, decide_eq_true_eq] at hin
        omega
      go_enter Tryz.func42, Tryz.ntmps42
      go_wp2_with (go_at_call 50; refine (within_any _ _ _ _).mono ?_; rintro e w' ⟨rfl, hww⟩; rw [hww]; clear hww w')
      have HIN := Lib.hid hin
      clear hin
      go_loopw [21] (fun iv wr => ∃ k : Nat, k ≤ p.doms.length ∧ iv = .int .i64 k ∧ (∀ j, j < k → nget p.doms j < 65536) ∧ wr.heap[w.heap.size]? = some (.cells #[.slice da p.doms.length dc, .slice ra p.rules.length rc] 25 (0, 0)) ∧ Below w.heap.size w wr) (fun iv _ => p.doms.length - (intOf iv).toNat)
      case atStart => exact ⟨0, Nat.zero_le _, rfl, fun j hj => absurd hj (Nat.not_lt_zero _), HK0.out, HB0.out⟩
      case round =>
        clear HB0 HK0
        obtain ⟨k, hk, rfl, hall, hk0, hb⟩ := hrel
        have HALL := Lib.hid hall; have HK := Lib.hid hk0; have HB := Lib.hid hb
        have zr : w.heap.size < wr.heap.size := (Array.getElem?_eq_some_iff.1 hk0).1
        clear hall hk0 hb
        by_cases hlt : k < p.doms.length
        · obtain ⟨_, a', c', hae, _, _, hdr⟩ := HDV.out.below HB.out hB
          cases hae
          obtain ⟨b, off, rfl, hbs, hcell⟩ := hdr (by omega)
          have c0 := hcell k (by omega)
          clear hdr hcell
          by_cases hd : nget p.doms k < 65536
          · have e0 : ((nget p.doms k : Nat) : Int) / 65536 = 0 := by omega
            have HD := Lib.hid hd
            clear hd
            go_wp2
            go_roundw
            case rel => exact ⟨k + 1, by omega, by go_num, fun j hj => if h : j = k then by subst h; exact HD.out else HALL.out j (by omega), HK.out, HB.out⟩
            case measure => simp [intOf]; omega
          · have e0 : (((nget p.doms k : Nat) : Int) / 65536 != 0) = true := by rw [bne_iff_ne]; omega
            have HF := Lib.hid (probD_no2 hlt hd)
            clear hd
            go_wp2
            go_ret
            exact ⟨by rw [HF.out]; rfl, HB.out⟩
        · have hk2 : k = p.doms.length := by omega
          subst hk2
          have q1 : wr.cell? ⟨w.heap.size, 1, none⟩ = some (.slice ra p.rules.length rc) := by rw [cell_of_row _ _ _ _ _ _ HK.out]; rfl
          obtain ⟨wo, hwo⟩ : ∃ wo : World, wo = wr := ⟨_, rfl⟩
          have HWO := Lib.hid hwo
          clear hwo
          go_wp2_with fail
          go_loopw [32] (fun iv wq => ∃ k : Nat, k ≤ p.rules.length ∧ iv = .int .i64 k ∧ (∀ j, j < k → ruleD (drget p.rules j) p.doms.length = true) ∧ wq.heap[w.heap.size]? = some (.cells #[.slice da p.doms.length dc, .slice ra p.rules.length rc] 25 (0, 0)) ∧ Below w.heap.size w wq) (fun iv _ => p.rules.length - (intOf iv).toNat)
          case atStart => exact ⟨0, Nat.zero_le _, rfl, fun j hj => absurd hj (Nat.not_lt_zero _), HK.out, HB.out⟩
          case round =>
            clear HB HK q1 zr HWO
            obtain ⟨k, hk, rfl, hall, hk0, hb⟩ := hrel
            have zr : w.heap.size < wr.heap.size := (Array.getElem?_eq_some_iff.1 hk0).1
            have HALL2 := Lib.hid hall; have HK := Lib.hid hk0; have HB := Lib.hid hb
            clear hall hk0 hb
            by_cases hlt2 : k < p.rules.length
            · obtain ⟨b, off, vv, nv, hae, hbs, hra, c0, c1, c2, c3⟩ := (HRV.out.below HB.out hB).cells hlt2
              subst hae
              obtain ⟨va, vc, rfl⟩ := hra.vars.slice
              obtain ⟨na, nc, rfl⟩ := hra.nums.slice
              obtain ⟨r, hr⟩ : ∃ r, r = drget p.rules k := ⟨_, rfl⟩
              rw [← hr] at hra c0 c1 c2 c3
              have hb1 := Below.new1 wr (.cells #[.int .i64 r.kind, .slice va r.vars.length vc, .slice na r.nums.length nc, .int .i64 r.n] 69)
              have hk1 := heap_later HK.out hb1 zr
              have d0 : (wr.alloc (.cells #[.int .i64 r.kind, .slice va r.vars.length vc, .slice na r.nums.length nc, .int .i64 r.n] 69)).cell? ⟨w.heap.size, 0, none⟩ = some (.slice da p.doms.length dc) := by rw [cell_of_row _ _ _ _ _ _ hk1]; rfl
              have hsb := HB.out.size
              have hru := rule_any r p.doms.length _ _ _ (hra.below hb1 (by omega)) (by simp; omega) (by omega) (by omega)
              unfold ruleV at hru
              have HRU := Lib.hid hru; have HB1 := Lib.hid (HB.out.trans (hb1.mono HB.out.size)); have HK1 := Lib.hid hk1; have HRR := Lib.hid hr
              clear hra hb1 hk1 hru hr
              go_wp2_with fail
              refine HRU.out.mono ?_
              rintro e w2 ⟨rfl, hb2⟩
              have HB2 := Lib.hid (HB1.out.trans (hb2.mono HB1.out.size)); have HK2 := Lib.hid (heap_later HK1.out hb2 (by simp; omega))
              clear hb2 HRU
              cases hok : ruleD r p.doms.length
              case false =>
                have HF := Lib.hid (probD_no3 hlt2 (by rw [← HRR.out]; exact hok))
                clear hok
                go_wp2
                go_ret
                exact ⟨by rw [HF.out]; rfl, HB2.out⟩
              case true =>
                have HOK := Lib.hid hok
                clear hok
                go_wp2
                go_roundw
                case rel => exact ⟨k + 1, by omega, by go_num, fun j hj => if h : j = k then by subst h; rw [← HRR.out]; exact HOK.out else HALL2.out j (by omega), HK2.out, HB2.out⟩
                case measure => simp [intOf]; omega
            · have hk2 : k = p.rules.length := by omega
              subst hk2
              have HF := Lib.hid (probD_yes HIN.out (show (p.rules.length : Int) ≤ 12 by omega) HALL.out HALL2.out)
              go_wp2
              go_ret
              exact ⟨by rw [HF.out]; rfl, HB.out⟩
end Go.Proofs.YtdmmegmkdhinjaaGreatDoor

namespace Go.Proofs.YtdmmegmkdhinjaaGreatDoor
open Go Go.RowKit
attribute [local go_sem] cell_grow u64_sAnd u64_sOr u64_sDiff sDiff_all zeqI zneI sAnd_bit_zero sAnd_bit_zeroN sAnd_bit_nonzero

/-- The cells of a rule in a block. -/
def ruleCells (r : Dr) (vv nv : Value) : Array Value := #[.int .i64 r.kind, vv, nv, .int .i64 r.n]
/-- What bits.Len64 of a number hands back. -/
def Len64At (P : Program) (f : FuncId) : Prop := ∀ (x : Nat) (w : World), U64 x → Calls P f #[.int .u64 (x : Nat)] w fun e w' => e = .returned (.int .i64 (Lib.bitLen x : Nat)) ∧ w' = w
theorem sumD_take {ns : List Int} {ds : List Nat} (h : ns.length = ds.length) {k : Nat} (hk : k < ds.length) :
    sumD (ns.take (k + 1)) (ds.take (k + 1)) = sumD (ns.take k) (ds.take k) + iget ns k * (if iget ns k < 0 then (hiD (nget ds k) : Int) else (ctzN (nget ds k) : Int)) := by
  induction ns generalizing ds k with
  | nil => simp at h; omega
  | cons n ns ih =>
    cases ds with
    | nil => simp at hk
    | cons d ds =>
      cases k with
      | zero =>
        simp only [List.take_succ_cons, List.take_zero, sumD]
        show _ = 0 + n * (if n < 0 then (hiD d : Int) else (ctzN d : Int))
        omega
      | succ k =>
        have := ih (by simpa using h) (k := k) (by simpa using hk)
        simp only [List.take_succ_cons, sumD]
        rw [this]
        show _ = _ + iget ns k * (if iget ns k < 0 then (hiD (nget ds k) : Int) else (ctzN (nget ds k) : Int))
        omega
theorem bitLen_le16 {d : Nat} (h : d < 65536) : Lib.bitLen d ≤ 16 := Lib.bitLen_le d 16 (by omega) h
theorem term_lim {n : Int} (hn : -20 ≤ n ∧ n ≤ 20) {v : Int} (hv : 0 ≤ v ∧ v ≤ 15) : -300 ≤ n * v ∧ n * v ≤ 300 := by
  obtain ⟨k, rfl⟩ : ∃ k : Nat, v = k := ⟨v.toNat, by omega⟩
  have hk : k ≤ 15 := by omega
  match k, hk with
  | 0, _ => omega
  | 1, _ => omega
  | 2, _ => omega
  | 3, _ => omega
  | 4, _ => omega
  | 5, _ => omega
  | 6, _ => omega
  | 7, _ => omega
  | 8, _ => omega
  | 9, _ => omega
  | 10, _ => omega
  | 11, _ => omega
  | 12, _ => omega
  | 13, _ => omega
  | 14, _ => omega
  | 15, _ => omega
set_option maxRecDepth 100000 in
set_option maxHeartbeats 2000000 in
theorem can1_any (hlen : Len64At Tryz.prog 104) (r : Dr) (ds : List Nat) (vv nv dv : Value) (w : World) {B : Nat} (hr : RuleAt w B r vv nv) (hd : Us w B dv ds) (_ : 0 < B) (hB : B ≤ w.heap.size) (hT : Tab w)
    (hl : r.nums.length = ds.length) (h4 : ds.length ≤ 4) (hn : ∀ i, i < ds.length → -20 ≤ iget r.nums i ∧ iget r.nums i ≤ 20) (hds : ∀ i, i < ds.length → nget ds i < 65536 ∧ nget ds i ≠ 0) :
    Gives Tryz.prog 156 #[ruleV r vv nv, dv] w (.bool (decide (sumD r.nums ds ≤ r.n))) := by
  obtain ⟨va, vc, rfl⟩ := hr.vars.slice
  obtain ⟨na, nc, rfl⟩ := hr.nums.slice
  obtain ⟨da, dc, rfl⟩ := hd.slice
  unfold Gives ruleV
  have hb0 := Below.new1 w (.cells #[.int .i64 r.kind, .slice va r.vars.length vc, .slice na r.nums.length nc, .int .i64 r.n] 158)
  have hk0 := heap_new0 w (.cells #[.int .i64 r.kind, .slice va r.vars.length vc, .slice na r.nums.length nc, .int .i64 r.n] 158)
  have HB0 := Lib.hid hb0; have HK0 := Lib.hid hk0; have HR := Lib.hid hr; have HD := Lib.hid hd; have HT := Lib.hid hT; have HN := Lib.hid hn; have HDS := Lib.hid hds; have HLEN := Lib.hid hlen; have HL := Lib.hid hl
  clear hb0 hk0 hr hd hT hn hds hlen
  rw [hl] at HK0 HB0 ⊢
  clear hl
  go_enter Tryz.func156, Tryz.ntmps156
  go_wp2
  go_loopw [5, 11] (fun sv iv wr => ∃ (k : Nat) (s : Int), k ≤ ds.length ∧ iv = .int .i64 k ∧ sv = .int .i64 s ∧ s = sumD (r.nums.take k) (ds.take k) ∧ -300 * (k : Int) ≤ s ∧ s ≤ 300 * (k : Int) ∧ wr.heap[w.heap.size]? = some (.cells #[.int .i64 r.kind, .slice va r.vars.length vc, .slice na ds.length nc, .int .i64 r.n] 158 (0, 0)) ∧ Below w.heap.size w wr) (fun _ iv _ => ds.length - (intOf iv).toNat)
  case atStart => exact ⟨0, 0, Nat.zero_le _, rfl, rfl, by simp [sumD], by omega, by omega, HK0.out, HB0.out⟩
  case round =>
    clear HB0 HK0
    obtain ⟨k, s, hk, rfl, rfl, hs, hs1, hs2, hk0, hb⟩ := hrel
    have zr : w.heap.size < wr.heap.size := (Array.getElem?_eq_some_iff.1 hk0).1
    have HK := Lib.hid hk0; have HB := Lib.hid hb; have HS := Lib.hid hs
    have q2 : wr.cell? ⟨w.heap.size, 2, none⟩ = some (.slice na ds.length nc) := by rw [cell_of_row _ _ _ _ _ _ hk0]; rfl
    have q3 : wr.cell? ⟨w.heap.size, 3, none⟩ = some (.int .i64 r.n) := by rw [cell_of_row _ _ _ _ _ _ hk0]; rfl
    clear hk0 hb hs
    by_cases hlt : k < ds.length
    · obtain ⟨_, a', c', hae, _, _, hdr⟩ := HD.out.below HB.out hB
      cases hae
      obtain ⟨b, off, rfl, hbs, hcell⟩ := hdr (by omega)
      have c0 : wr.cell? ⟨b, off + k, none⟩ = some (.int .u64 (nget ds k : Nat)) := hcell k (by omega)
      obtain ⟨_, a', c', hae, _, _, hnr⟩ := HR.out.nums.below HB.out hB
      cases hae
      obtain ⟨nb, noff, rfl, hnbs, hncell⟩ := hnr (by rw [HL.out]; omega)
      have c1 : wr.cell? ⟨nb, noff + k, none⟩ = some (.int .i64 (iget r.nums k)) := hncell k (by rw [HL.out]; omega)
      have hdk := HDS.out k hlt
      have hnk := HN.out k hlt
      have hu : U64 (nget ds k) := Nat.lt_trans hdk.1 (by decide)
      have htz := tz64_any (nget ds k) hu hdk.2 wr (HT.out.below HB.out (by omega))
      have hln := HLEN.out (nget ds k) wr hu
      have hst := sumD_take HL.out hlt
      have hz16 : ctzN (nget ds k) ≤ 15 := by
        have := (and_pred_testBit (nget ds k) hdk.2 hu 0).2.2
        apply Decidable.byContradiction
        intro hc
        have h6 := Nat.testBit_lt_two_pow (Nat.lt_of_lt_of_le (show nget ds k < 2 ^ 16 from hdk.1) (Nat.pow_le_pow_right (by decide) (show 16 ≤ ctzN (nget ds k) by omega)))
        rw [this] at h6; cases h6
      have hb16 := bitLen_le16 hdk.1
      have hb0 : 1 ≤ Lib.bitLen (nget ds k) := by rw [Lib.bitLen_half _ hdk.2 hu]; omega
      have hhi : ((Lib.bitLen (nget ds k) : Nat) : Int) - 1 = ((hiD (nget ds k) : Nat) : Int) := by unfold hiD; omega
      have hhi15 : hiD (nget ds k) ≤ 15 := by unfold hiD; omega
      have HTZ := Lib.hid htz; have HLN := Lib.hid hln; have HST := Lib.hid hst; have HHI := Lib.hid hhi
      have ht1 := term_lim hnk (v := ((hiD (nget ds k) : Nat) : Int)) (by omega)
      have ht2 := term_lim hnk (v := ((ctzN (nget ds k) : Nat) : Int)) (by omega)
      clear hdr hcell hnr hncell hdk htz hln hst hu hhi
      obtain ⟨m, hm⟩ : ∃ m, m = iget r.nums k := ⟨_, rfl⟩
      rw [← hm] at c1 HST ht1 ht2 hnk
      obtain ⟨hi, hhi⟩ : ∃ x, x = hiD (nget ds k) := ⟨_, rfl⟩
      obtain ⟨lo, hlo⟩ : ∃ x, x = ctzN (nget ds k) := ⟨_, rfl⟩
      rw [← hhi] at HHI HST ht1 hhi15
      rw [← hlo] at HST ht2 hz16 HTZ
      clear hm hhi hlo
      by_cases hneg : m < 0
      · rw [if_pos hneg] at HST
        obtain ⟨t, ht⟩ : ∃ t, t = m * (hi : Int) := ⟨_, rfl⟩
        rw [← ht] at HST ht1
        have HTT := Lib.hid ht
        have hw1 : IntKind.i64.wrap t = t := IntWalk.i64_in _ (by omega)
        have hw2 : IntKind.i64.wrap (s + t) = s + t := IntWalk.i64_in _ (by omega)
        clear ht2
        go_wp2_with fail
        refine HTZ.out.mono ?_
        rintro e w' ⟨rfl, hww⟩
        rw [hww]
        clear hww w'
        go_wp2_with fail
        refine HLN.out.mono ?_
        rintro e w' ⟨rfl, hww⟩
        rw [hww]
        clear hww w'
        go_upto_region 8 with fail
        rw [HHI.out]
        have ht' := ht.symm
        clear ht
        go_wp2
        go_roundw
        case rel => exact ⟨k + 1, s + t, by omega, by go_num, rfl, by rw [HST.out, HS.out], by omega, by omega, HK.out, HB.out⟩
        case measure => simp [intOf]; omega
      · rw [if_neg hneg] at HST
        obtain ⟨t, ht⟩ : ∃ t, t = m * (lo : Int) := ⟨_, rfl⟩
        rw [← ht] at HST ht2
        have HTT := Lib.hid ht
        have hw1 : IntKind.i64.wrap t = t := IntWalk.i64_in _ (by omega)
        have hw2 : IntKind.i64.wrap (s + t) = s + t := IntWalk.i64_in _ (by omega)
        clear ht1
        go_wp2_with fail
        refine HTZ.out.mono ?_
        rintro e w' ⟨rfl, hww⟩
        rw [hww]
        clear hww w'
        have ht' := ht.symm
        clear ht
        go_wp2
        go_roundw
        case rel => exact ⟨k + 1, s + t, by omega, by go_num, rfl, by rw [HST.out, HS.out], by omega, by omega, HK.out, HB.out⟩
        case measure => simp [intOf]; omega
    · have hk2 : k = ds.length := by omega
      subst hk2
      have hs3 := HS.out
      rw [List.take_length, List.take_of_length_le (by rw [HL.out]; exact Nat.le_refl _)] at hs3
      have HS3 := Lib.hid hs3
      clear hs3
      go_wp2
      go_ret
      exact ⟨by rw [← HS3.out]; rfl, HB.out⟩
end Go.Proofs.YtdmmegmkdhinjaaGreatDoor

namespace Go.Proofs.YtdmmegmkdhinjaaGreatDoor
open Go Go.RowKit
attribute [local go_sem] cell_grow u64_sAnd u64_sOr u64_sDiff sDiff_all zeqI zneI sAnd_bit_zero sAnd_bit_zeroN sAnd_bit_nonzero Oper.semAt_some wide_fn wide_depth

set_option maxHeartbeats 400000 in
theorem values_any (s : Nat) (w : World) : Calls Tryz.prog 70 #[.int .u64 (s : Nat)] w fun e w' =>
    e = .returned (.func (.func 107) #[] #[.pointer (some ⟨w.heap.size, 0, none⟩)]) ∧ w.alloc (.cells #[.int .u64 (s : Nat)] 56) = w' := by
  go_enter Tryz.func70, Tryz.ntmps70
  go_wp2
  go_ret
  exact ⟨rfl, rfl⟩
set_option maxRecDepth 100000 in
set_option maxHeartbeats 2000000 in
theorem can4_any (r : Dr) (ds : List Nat) (vv nv dv : Value) (w : World) {B : Nat} (hr : RuleAt w B r vv nv) (hd : Us w B dv ds) (hB0 : 0 < B) (hB : B ≤ w.heap.size) (hT : Tab w)
    (h2 : ds.length = 2) (hn : -1000 ≤ r.n ∧ r.n ≤ 1000) (hds : ∀ i, i < ds.length → nget ds i < 65536) :
    Gives Tryz.prog 163 #[ruleV r vv nv, dv] w (.bool ((elems (nget ds 1)).any fun v => hasD (nget ds 0) (v + r.n))) := by
  obtain ⟨va, vc, rfl⟩ := hr.vars.slice
  obtain ⟨na, nc, rfl⟩ := hr.nums.slice
  have hdd := hd
  obtain ⟨_, da, dc, rfl, _, _, hdr⟩ := hdd
  obtain ⟨db, doff, rfl, hdb, hdcell⟩ := hdr (by omega)
  unfold Gives ruleV
  have x0 : w.cell? ⟨db, doff, none⟩ = some (.int .u64 (nget ds 0 : Nat)) := hdcell 0 (by omega)
  have x1 : w.cell? ⟨db, doff + 1, none⟩ = some (.int .u64 (nget ds 1 : Nat)) := hdcell 1 (by omega)
  have hu0 : nget ds 0 < 65536 := hds 0 (by omega)
  have hu1 : nget ds 1 < 65536 := hds 1 (by omega)
  have hn3 := heap_new3 w (.cells #[.int .i64 r.kind, .slice va r.vars.length vc, .slice na r.nums.length nc, .int .i64 r.n] 161) (.cells #[.slice (some ⟨db, doff, none⟩) ds.length dc] 22) (.cells #[.bool false] 4)
  have hb3 := Below.new3 w (.cells #[.int .i64 r.kind, .slice va r.vars.length vc, .slice na r.nums.length nc, .int .i64 r.n] 161) (.cells #[.slice (some ⟨db, doff, none⟩) ds.length dc] 22) (.cells #[.bool false] 4)
  have HN3 := Lib.hid hn3; have HB3 := Lib.hid hb3; have HT := Lib.hid hT; have H2 := Lib.hid h2
  have hdl : (1 : Int) < ((ds.length : Nat) : Int) := by omega
  have hdl0 : (0 : Int) < ((ds.length : Nat) : Int) := by omega
  clear hr hd hdr hdcell hn3 hb3 hT h2 hds
  refine callsIn_wide.1 (callsIn_of_wp_marks (n := 0) Tryz.func163 rfl trivial (wpIn_wide.2 ?_) rfl)
  simp only [Tryz.ntmps163, List.size_toArray, List.length_cons, List.length_nil, Nat.reduceAdd, Nat.reduceSub, Array.replicate_succ, Array.replicate_zero, List.push_toArray, List.append_toArray, List.nil_append, List.cons_append]
  go_upto_region 1 with fail
  refine abs_wp (fun W => W.heap[w.heap.size]? = some (.cells #[.int .i64 r.kind, .slice va r.vars.length vc, .slice na r.nums.length nc, .int .i64 r.n] 161 (0, 0)) ∧ W.heap[w.heap.size + 1]? = some (.cells #[.slice (some ⟨db, doff, none⟩) ds.length dc] 22 (0, 0)) ∧ W.heap[w.heap.size + 1 + 1]? = some (.cells #[.bool false] 4 (0, 0)) ∧ Below w.heap.size w W) ⟨HN3.out.1, HN3.out.2.1, HN3.out.2.2, HB3.out⟩ ?_
  clear HN3 HB3
  rintro W ⟨k0, k1, k2, hb⟩
  have zW : w.heap.size + 1 + 1 < W.heap.size := (Array.getElem?_eq_some_iff.1 k2).1
  have y0 : W.cell? ⟨db, doff, none⟩ = some (.int .u64 (nget ds 0 : Nat)) := (hb.cell (p := ⟨db, doff, none⟩) (by show db < w.heap.size; omega)).trans x0
  have y1 : W.cell? ⟨db, doff + 1, none⟩ = some (.int .u64 (nget ds 1 : Nat)) := (hb.cell (p := ⟨db, doff + 1, none⟩) (by show db < w.heap.size; omega)).trans x1
  have c1 : W.cell? ⟨w.heap.size + 1, 0, none⟩ = some (.slice (some ⟨db, doff, none⟩) ds.length dc) := by rw [cell_of_row _ _ _ _ _ _ k1]; rfl
  have K0 := Lib.hid k0; have K1 := Lib.hid k1; have K2 := Lib.hid k2; have HB := Lib.hid hb
  clear k0 k1 k2 hb x0 x1
  go_wp2_with fail
  refine (values_any (nget ds 1) W).mono ?_
  rintro e w5 ⟨rfl, hw5⟩
  have kB : w5.heap[W.heap.size]? = some (.cells #[.int .u64 ((nget ds 1 : Nat) : Int)] 56 (0, 0)) := by rw [← hw5]; exact heap_new0 _ _
  have hbW : Below W.heap.size W w5 := by rw [← hw5]; exact Below.new1 _ _
  have hs5 : W.heap.size + 1 = w5.heap.size := by rw [← hw5]; simp
  have hb5 := HB.out.trans (hbW.mono HB.out.size)
  have hT5 : Tab w5 := HT.out.below hb5 (by omega)
  have K05 := Lib.hid (heap_later K0.out hbW (by omega)); have K15 := Lib.hid (heap_later K1.out hbW (by omega)); have K25 := Lib.hid (heap_later K2.out hbW zW)
  have KB := Lib.hid kB; have HBW := Lib.hid hbW; have HB5 := Lib.hid hb5; have HT5 := Lib.hid hT5
  have e0 : w5.cell? ⟨db, doff, none⟩ = some (.int .u64 (nget ds 0 : Nat)) := (hbW.cell (p := ⟨db, doff, none⟩) (by show db < W.heap.size; omega)).trans y0
  have E0 := Lib.hid e0
  clear hw5 kB hbW hb5 hT5 c1 y0 y1 e0 K0 K1 K2
  go_wp2_with fail
  refine wpIn_wide.1 (rangeElems (n := 0) W.heap.size (nget ds 1) rfl (Nat.lt_trans hu1 (by decide)) KB.out (by show W.heap.size ≠ 0; omega)
    (fun pre V => Frm W.heap.size w5 V ∧ ∀ v ∈ pre, hasD (nget ds 0) ((v : Int) + r.n) = false)
    (fun c pre V => c = Code.ret ∧ (∃ v ∈ elems (nget ds 1), hasD (nget ds 0) ((v : Int) + r.n) = true) ∧ Below w.heap.size w V ∧ V.cell? ⟨w.heap.size + 1 + 1, 0, none⟩ = some (.bool true))
    (fun pre V V' h ht => ⟨h.1.touched ht, h.2⟩)
    (fun c pre V V' h ht => ⟨h.1, h.2.1, below_touched h.2.2.1 ht (by omega) (by omega) (Nat.le_refl _), cell_touched h.2.2.2 ht (by omega)⟩)
    (fun pre V h => HT5.out.below (h.1.under (by omega)) (by omega)) ⟨Frm.refl _ _, fun e he => absurd he (by simp)⟩ ?round ?done ?stop)
  case round =>
    intro lp pre x rest V hel
    gi_wp2
    refine ⟨trivial, ?_⟩
    rintro V2 ⟨hfrm, hpre⟩ hBs0 hL2
    have hu : Below W.heap.size w5 V2 := hfrm.under (by omega)
    have hx16 : x < 16 := by
      have : x ∈ elems (nget ds 1) := by rw [hel]; simp
      unfold elems at this
      have hbit := (List.mem_filter.1 this).2
      apply Decidable.byContradiction
      intro hc
      have h6 := Nat.testBit_lt_two_pow (Nat.lt_of_lt_of_le (show nget ds 1 < 2 ^ 16 from hu1) (Nat.pow_le_pow_right (by decide) (show 16 ≤ x by omega)))
      rw [hbit] at h6; cases h6
    have q1 : V2.cell? ⟨w.heap.size + 1, 0, none⟩ = some (.slice (some ⟨db, doff, none⟩) ds.length dc) := by rw [cell_of_row _ _ _ _ _ _ (heap_later K15.out hu (by omega))]; rfl
    have q3 : V2.cell? ⟨w.heap.size, 3, none⟩ = some (.int .i64 r.n) := by rw [cell_of_row _ _ _ _ _ _ (heap_later K05.out hu (by omega))]; rfl
    have q0 : V2.cell? ⟨db, doff, none⟩ = some (.int .u64 (nget ds 0 : Nat)) := (hu.cell (p := ⟨db, doff, none⟩) (by show db < W.heap.size; omega)).trans E0.out
    have hk2 := heap_later K25.out hu (by omega)
    have ce : V2.cell? ⟨w.heap.size + 1 + 1, 0, none⟩ = some (.bool false) := by rw [cell_of_row _ _ _ _ _ _ hk2]; rfl
    have fe : V2.frozen? ⟨w.heap.size + 1 + 1, 0, none⟩ = false := by simp [World.frozen?, hk2]
    have HG := Lib.hid (fun (d : Nat) (os : Array Obj) => Gives.of_same (hasd_any (nget ds 0) ((x : Int) + r.n) (Go.Sort.grow (redrawn V2 d) os) (Nat.lt_trans hu0 (by decide))))
    have z0 : db < V2.heap.size := by omega
    have z1 : w.heap.size < V2.heap.size := by omega
    have z2 : w.heap.size + 1 < V2.heap.size := by omega
    have z3 : w.heap.size + 1 + 1 < V2.heap.size := by omega
    have HFRM := Lib.hid hfrm; have HPRE := Lib.hid hpre; have HEL := Lib.hid hel; have HU := Lib.hid hu
    clear hfrm hpre hel hu hBs0 hk2
    gi_wp2_with fail
    cases hh : hasD (nget ds 0) ((x : Int) + r.n)
    case false =>
      rw [hh] at HG
      have HH := Lib.hid hh
      clear hh
      refine wpIn_region_qb (by kernel_rfl) (by kernel_rfl) (by rintro ⟨a, w, h⟩; exact h) ?_
      repeat go_big_quiet_step ((with_reducible exact Gives.quiet (HG.out _ _)))
      refine wpQuiet_nil ?_
      intro V3 hb3
      have HB3 := Lib.hid hb3
      clear hb3
      gi_wp2
      exact ⟨(Keep.refl _ _ _).below HB3.out, HFRM.out.grow HB3.out, fun e he => by
        rcases List.mem_append.1 he with he | he
        · exact HPRE.out e he
        · rw [List.mem_singleton.1 he]; exact HH.out⟩
    case true =>
      rw [hh] at HG
      have HH := Lib.hid hh
      clear hh
      refine wpIn_region_qb (by kernel_rfl) (by kernel_rfl) (by rintro ⟨a, w, h⟩; exact h) ?_
      repeat go_big_quiet_step ((with_reducible exact Gives.quiet (HG.out _ _)))
      refine wpQuiet_nil ?_
      intro V3 hb3
      have ce3 := (hb3.cell (p := ⟨w.heap.size + 1 + 1, 0, none⟩) z3).trans ce
      have fe3 := (hb3.frozen (p := ⟨w.heap.size + 1 + 1, 0, none⟩) z3).trans fe
      have HB3 := Lib.hid hb3
      clear hb3 ce fe
      gi_wp2
      refine ⟨((Keep.refl _ _ _).below HB3.out).setCell (by show w.heap.size + 1 + 1 ≠ _; omega) _, rfl, ⟨x, by rw [HEL.out]; simp, HH.out⟩, ?_, World.cell?_setCell_same _ _ _ ce3⟩
      exact (((HFRM.out.grow HB3.out).below HB5.out (by omega) (by omega)).setCell (by show w.heap.size ≤ w.heap.size + 1 + 1; omega) _)
  case done =>
    rintro D V hD ⟨hfrm, hall⟩ hK
    have ke := heap_later K25.out (hfrm.under (by omega)) (by omega)
    have ce : V.cell? ⟨w.heap.size + 1 + 1, 0, none⟩ = some (.bool false) := by rw [cell_of_row _ _ _ _ _ _ ke]; rfl
    have fe : V.frozen? ⟨w.heap.size + 1 + 1, 0, none⟩ = false := by simp [World.frozen?, ke]
    have HFRM := Lib.hid hfrm; have HK := Lib.hid hK; have HALL := Lib.hid hall
    clear hfrm hK hall ke
    go_wp2
    try rw [Exit.noGoto_ret]
    refine bodyM_ret1 (v := .bool false) D ((Below.heap_setCell _ _ _ _ (by show D ≠ w.heap.size + 1 + 1; omega)).trans HK.out) (results_cell1 rfl rfl (loadVar_one Tryz.underlying4 rfl ?_)) rfl ⟨?_, ?_⟩
    · rw [cell_putObj (by omega)]; exact World.cell?_setCell_same _ _ _ ce
    · rw [show ((elems (nget ds 1)).any fun v => hasD (nget ds 0) ((v : Int) + r.n)) = false by rw [Bool.eq_false_iff]; intro hc; obtain ⟨e, he, h⟩ := List.any_eq_true.1 hc; rw [HALL.out e he] at h; cases h]
    · exact below_putObj ((HFRM.out.below HB5.out (by omega) (by omega)).setCell (p := ⟨w.heap.size + 1 + 1, 0, none⟩) (by show w.heap.size ≤ w.heap.size + 1 + 1; omega) _) (by omega) _
  case stop =>
    rintro D c pre V hD ⟨rfl, hex, hbel, hcell⟩ hK
    have HK := Lib.hid hK; have HEx := Lib.hid hex; have HBel := Lib.hid hbel; have HCell := Lib.hid hcell
    clear hK hex hbel hcell
    gi_wp2
    try rw [Exit.noGoto_ret]
    refine bodyM_ret1 (v := .bool true) D HK.out (results_cell1 rfl rfl (loadVar_one Tryz.underlying4 rfl ?_)) rfl ⟨?_, ?_⟩
    · rw [cell_putObj (by omega)]; exact HCell.out
    · rw [show ((elems (nget ds 1)).any fun v => hasD (nget ds 0) ((v : Int) + r.n)) = true by rw [List.any_eq_true]; exact HEx.out]
    · exact below_putObj HBel.out (by omega) _
set_option maxRecDepth 100000 in
set_option maxHeartbeats 2000000 in
theorem can3_any (r : Dr) (ds : List Nat) (vv nv dv : Value) (w : World) {B : Nat} (hr : RuleAt w B r vv nv) (hd : Us w B dv ds) (hB0 : 0 < B) (hB : B ≤ w.heap.size) (hT : Tab w)
    (h2 : ds.length = 2) (hds : ∀ i, i < ds.length → nget ds i < 65536) :
    Gives Tryz.prog 161 #[ruleV r vv nv, dv] w (.bool ((elems (nget ds 0)).any fun v => decide (v < r.nums.length) && hasD (nget ds 1) (iget r.nums v))) := by
  obtain ⟨va, vc, rfl⟩ := hr.vars.slice
  obtain ⟨na, nc, rfl⟩ := hr.nums.slice
  have hdd := hd
  obtain ⟨_, da, dc, rfl, _, _, hdr⟩ := hdd
  obtain ⟨db, doff, rfl, hdb, hdcell⟩ := hdr (by omega)
  unfold Gives ruleV
  have x0 : w.cell? ⟨db, doff, none⟩ = some (.int .u64 (nget ds 0 : Nat)) := hdcell 0 (by omega)
  have x1 : w.cell? ⟨db, doff + 1, none⟩ = some (.int .u64 (nget ds 1 : Nat)) := hdcell 1 (by omega)
  have hu0 : nget ds 0 < 65536 := hds 0 (by omega)
  have hu1 : nget ds 1 < 65536 := hds 1 (by omega)
  have hn3 := heap_new3 w (.cells #[.int .i64 r.kind, .slice va r.vars.length vc, .slice na r.nums.length nc, .int .i64 r.n] 160) (.cells #[.slice (some ⟨db, doff, none⟩) ds.length dc] 22) (.cells #[.bool false] 4)
  have hb3 := Below.new3 w (.cells #[.int .i64 r.kind, .slice va r.vars.length vc, .slice na r.nums.length nc, .int .i64 r.n] 160) (.cells #[.slice (some ⟨db, doff, none⟩) ds.length dc] 22) (.cells #[.bool false] 4)
  have HN3 := Lib.hid hn3; have HB3 := Lib.hid hb3; have HT := Lib.hid hT; have H2 := Lib.hid h2; have HR := Lib.hid hr
  have hdl : (1 : Int) < ((ds.length : Nat) : Int) := by omega
  have hdl0 : (0 : Int) < ((ds.length : Nat) : Int) := by omega
  clear hr hd hdr hdcell hn3 hb3 hT h2 hds
  refine callsIn_wide.1 (callsIn_of_wp_marks (n := 0) Tryz.func161 rfl trivial (wpIn_wide.2 ?_) rfl)
  simp only [Tryz.ntmps161, List.size_toArray, List.length_cons, List.length_nil, Nat.reduceAdd, Nat.reduceSub, Array.replicate_succ, Array.replicate_zero, List.push_toArray, List.append_toArray, List.nil_append, List.cons_append]
  go_upto_region 1 with fail
  refine abs_wp (fun W => W.heap[w.heap.size]? = some (.cells #[.int .i64 r.kind, .slice va r.vars.length vc, .slice na r.nums.length nc, .int .i64 r.n] 160 (0, 0)) ∧ W.heap[w.heap.size + 1]? = some (.cells #[.slice (some ⟨db, doff, none⟩) ds.length dc] 22 (0, 0)) ∧ W.heap[w.heap.size + 1 + 1]? = some (.cells #[.bool false] 4 (0, 0)) ∧ Below w.heap.size w W) ⟨HN3.out.1, HN3.out.2.1, HN3.out.2.2, HB3.out⟩ ?_
  clear HN3 HB3
  rintro W ⟨k0, k1, k2, hb⟩
  have zW : w.heap.size + 1 + 1 < W.heap.size := (Array.getElem?_eq_some_iff.1 k2).1
  have y0 : W.cell? ⟨db, doff, none⟩ = some (.int .u64 (nget ds 0 : Nat)) := (hb.cell (p := ⟨db, doff, none⟩) (by show db < w.heap.size; omega)).trans x0
  have y1 : W.cell? ⟨db, doff + 1, none⟩ = some (.int .u64 (nget ds 1 : Nat)) := (hb.cell (p := ⟨db, doff + 1, none⟩) (by show db < w.heap.size; omega)).trans x1
  have c1 : W.cell? ⟨w.heap.size + 1, 0, none⟩ = some (.slice (some ⟨db, doff, none⟩) ds.length dc) := by rw [cell_of_row _ _ _ _ _ _ k1]; rfl
  have K0 := Lib.hid k0; have K1 := Lib.hid k1; have K2 := Lib.hid k2; have HB := Lib.hid hb
  clear k0 k1 k2 hb x0 x1
  go_wp2_with fail
  refine (values_any (nget ds 0) W).mono ?_
  rintro e w5 ⟨rfl, hw5⟩
  have kB : w5.heap[W.heap.size]? = some (.cells #[.int .u64 ((nget ds 0 : Nat) : Int)] 56 (0, 0)) := by rw [← hw5]; exact heap_new0 _ _
  have hbW : Below W.heap.size W w5 := by rw [← hw5]; exact Below.new1 _ _
  have hs5 : W.heap.size + 1 = w5.heap.size := by rw [← hw5]; simp
  have hb5 := HB.out.trans (hbW.mono HB.out.size)
  have hT5 : Tab w5 := HT.out.below hb5 (by omega)
  have K05 := Lib.hid (heap_later K0.out hbW (by omega)); have K15 := Lib.hid (heap_later K1.out hbW (by omega)); have K25 := Lib.hid (heap_later K2.out hbW zW)
  have KB := Lib.hid kB; have HBW := Lib.hid hbW; have HB5 := Lib.hid hb5; have HT5 := Lib.hid hT5
  have e0 : w5.cell? ⟨db, doff + 1, none⟩ = some (.int .u64 (nget ds 1 : Nat)) := (hbW.cell (p := ⟨db, doff + 1, none⟩) (by show db < W.heap.size; omega)).trans y1
  have E0 := Lib.hid e0
  clear hw5 kB hbW hb5 hT5 c1 y0 y1 e0 K0 K1 K2
  go_wp2_with fail
  refine wpIn_wide.1 (rangeElems (n := 0) W.heap.size (nget ds 0) rfl (Nat.lt_trans hu0 (by decide)) KB.out (by show W.heap.size ≠ 0; omega)
    (fun pre V => Frm W.heap.size w5 V ∧ ∀ v ∈ pre, (decide (v < r.nums.length) && hasD (nget ds 1) (iget r.nums v)) = false)
    (fun c pre V => c = Code.ret ∧ (∃ v ∈ elems (nget ds 0), (decide (v < r.nums.length) && hasD (nget ds 1) (iget r.nums v)) = true) ∧ Below w.heap.size w V ∧ V.cell? ⟨w.heap.size + 1 + 1, 0, none⟩ = some (.bool true))
    (fun pre V V' h ht => ⟨h.1.touched ht, h.2⟩)
    (fun c pre V V' h ht => ⟨h.1, h.2.1, below_touched h.2.2.1 ht (by omega) (by omega) (Nat.le_refl _), cell_touched h.2.2.2 ht (by omega)⟩)
    (fun pre V h => HT5.out.below (h.1.under (by omega)) (by omega)) ⟨Frm.refl _ _, fun e he => absurd he (by simp)⟩ ?round ?done ?stop)
  case round =>
    intro lp pre x rest V hel
    gi_wp2
    refine ⟨trivial, ?_⟩
    rintro V2 ⟨hfrm, hpre⟩ hBs0 hL2
    have hu : Below W.heap.size w5 V2 := hfrm.under (by omega)
    have hx16 : x < 16 := by
      have : x ∈ elems (nget ds 0) := by rw [hel]; simp
      unfold elems at this
      have hbit := (List.mem_filter.1 this).2
      apply Decidable.byContradiction
      intro hc
      have h6 := Nat.testBit_lt_two_pow (Nat.lt_of_lt_of_le (show nget ds 0 < 2 ^ 16 from hu0) (Nat.pow_le_pow_right (by decide) (show 16 ≤ x by omega)))
      rw [hbit] at h6; cases h6
    have q1 : V2.cell? ⟨w.heap.size + 1, 0, none⟩ = some (.slice (some ⟨db, doff, none⟩) ds.length dc) := by rw [cell_of_row _ _ _ _ _ _ (heap_later K15.out hu (by omega))]; rfl
    have q3 : V2.cell? ⟨w.heap.size, 2, none⟩ = some (.slice na r.nums.length nc) := by rw [cell_of_row _ _ _ _ _ _ (heap_later K05.out hu (by omega))]; rfl
    have q0 : V2.cell? ⟨db, doff + 1, none⟩ = some (.int .u64 (nget ds 1 : Nat)) := (hu.cell (p := ⟨db, doff + 1, none⟩) (by show db < W.heap.size; omega)).trans E0.out
    have hk2 := heap_later K25.out hu (by omega)
    have ce : V2.cell? ⟨w.heap.size + 1 + 1, 0, none⟩ = some (.bool false) := by rw [cell_of_row _ _ _ _ _ _ hk2]; rfl
    have fe : V2.frozen? ⟨w.heap.size + 1 + 1, 0, none⟩ = false := by simp [World.frozen?, hk2]
    have z0 : db < V2.heap.size := by omega
    have z1 : w.heap.size < V2.heap.size := by omega
    have z2 : w.heap.size + 1 < V2.heap.size := by omega
    have z3 : w.heap.size + 1 + 1 < V2.heap.size := by omega
    have HFRM := Lib.hid hfrm; have HPRE := Lib.hid hpre; have HEL := Lib.hid hel; have HU := Lib.hid hu
    clear hfrm hpre hel hu hBs0 hk2
    gi_wp2_with fail
    by_cases hxl : x < r.nums.length
    · have hdx : decide (x < r.nums.length) = true := decide_eq_true hxl
      have hxi : ((x : Nat) : Int) < ((r.nums.length : Nat) : Int) := by omega
      obtain ⟨_, a', c', hae, _, _, hnr⟩ := HR.out.nums
      cases hae
      obtain ⟨nb, noff, rfl, hnb, hncell⟩ := hnr (by omega)
      have u0 : V2.cell? ⟨nb, noff + x, none⟩ = some (.int .i64 (iget r.nums x)) := ((HB5.out.trans (HU.out.mono (by omega))).cell (p := ⟨nb, noff + x, none⟩) (by show nb < w.heap.size; omega)).trans (hncell x (by omega))
      have HG := Lib.hid (fun (d : Nat) (os : Array Obj) => Gives.of_same (hasd_any (nget ds 1) (iget r.nums x) (Go.Sort.grow (redrawn V2 d) os) (Nat.lt_trans hu1 (by decide))))
      have z5 : nb < V2.heap.size := by omega
      clear hnr hncell
      cases hh : hasD (nget ds 1) (iget r.nums x)
      case false =>
        rw [hh] at HG
        have HH : Hid ((decide (x < r.nums.length) && hasD (nget ds 1) (iget r.nums x)) = false) := Lib.hid (by rw [hh]; simp)
        clear hh hdx
        refine wpIn_region_qb (by kernel_rfl) (by kernel_rfl) (by rintro ⟨a, w, h⟩; exact h) ?_
        repeat go_big_quiet_step ((with_reducible exact Gives.quiet (HG.out _ _)))
        refine wpQuiet_nil ?_
        intro V3 hb3
        have HB3 := Lib.hid hb3
        clear hb3
        gi_wp2
        exact ⟨(Keep.refl _ _ _).below HB3.out, HFRM.out.grow HB3.out, fun e he => by
          rcases List.mem_append.1 he with he | he
          · exact HPRE.out e he
          · rw [List.mem_singleton.1 he]; exact HH.out⟩
      case true =>
        rw [hh] at HG
        have HH : Hid ((decide (x < r.nums.length) && hasD (nget ds 1) (iget r.nums x)) = true) := Lib.hid (by rw [hh, hdx]; rfl)
        clear hh hdx
        refine wpIn_region_qb (by kernel_rfl) (by kernel_rfl) (by rintro ⟨a, w, h⟩; exact h) ?_
        repeat go_big_quiet_step ((with_reducible exact Gives.quiet (HG.out _ _)))
        refine wpQuiet_nil ?_
        intro V3 hb3
        have ce3 := (hb3.cell (p := ⟨w.heap.size + 1 + 1, 0, none⟩) z3).trans ce
        have fe3 := (hb3.frozen (p := ⟨w.heap.size + 1 + 1, 0, none⟩) z3).trans fe
        have HB3 := Lib.hid hb3
        clear hb3 ce fe
        gi_wp2
        refine ⟨((Keep.refl _ _ _).below HB3.out).setCell (by show w.heap.size + 1 + 1 ≠ _; omega) _, rfl, ⟨x, by rw [HEL.out]; simp, HH.out⟩, ?_, World.cell?_setCell_same _ _ _ ce3⟩
        exact (((HFRM.out.grow HB3.out).below HB5.out (by omega) (by omega)).setCell (by show w.heap.size ≤ w.heap.size + 1 + 1; omega) _)
    · have hdx : decide (x < r.nums.length) = false := decide_eq_false hxl
      have hxi : ¬ ((x : Nat) : Int) < ((r.nums.length : Nat) : Int) := by omega
      refine wpIn_region_qb (by kernel_rfl) (by kernel_rfl) (by rintro ⟨a, w, h⟩; exact h) ?_
      repeat go_big_quiet_step (fail)
      refine wpQuiet_nil ?_
      intro V3 hb3
      have HB3 := Lib.hid hb3
      have HDX := Lib.hid hdx
      clear hb3 hdx
      gi_wp2
      exact ⟨(Keep.refl _ _ _).below HB3.out, HFRM.out.grow HB3.out, fun e he => by
        rcases List.mem_append.1 he with he | he
        · first
          | exact HPRE.out e he
          | (intro hlt; have h5 := HPRE.out e he; rw [decide_eq_true hlt, Bool.true_and] at h5; exact h5)
        · rw [List.mem_singleton.1 he]
          first
          | (rw [HDX.out]; rfl)
          | (intro hlt; have h5 := HDX.out; rw [decide_eq_true hlt] at h5; cases h5)⟩
  case done =>
    rintro D V hD ⟨hfrm, hall⟩ hK
    have ke := heap_later K25.out (hfrm.under (by omega)) (by omega)
    have ce : V.cell? ⟨w.heap.size + 1 + 1, 0, none⟩ = some (.bool false) := by rw [cell_of_row _ _ _ _ _ _ ke]; rfl
    have fe : V.frozen? ⟨w.heap.size + 1 + 1, 0, none⟩ = false := by simp [World.frozen?, ke]
    have HFRM := Lib.hid hfrm; have HK := Lib.hid hK; have HALL := Lib.hid hall
    clear hfrm hK hall ke
    go_wp2
    try rw [Exit.noGoto_ret]
    refine bodyM_ret1 (v := .bool false) D ((Below.heap_setCell _ _ _ _ (by show D ≠ w.heap.size + 1 + 1; omega)).trans HK.out) (results_cell1 rfl rfl (loadVar_one Tryz.underlying4 rfl ?_)) rfl ⟨?_, ?_⟩
    · rw [cell_putObj (by omega)]; exact World.cell?_setCell_same _ _ _ ce
    · rw [show ((elems (nget ds 0)).any fun v => decide (v < r.nums.length) && hasD (nget ds 1) (iget r.nums v)) = false by rw [Bool.eq_false_iff]; intro hc; obtain ⟨e, he, h⟩ := List.any_eq_true.1 hc; rw [HALL.out e he] at h; cases h]
    · exact below_putObj ((HFRM.out.below HB5.out (by omega) (by omega)).setCell (p := ⟨w.heap.size + 1 + 1, 0, none⟩) (by show w.heap.size ≤ w.heap.size + 1 + 1; omega) _) (by omega) _
  case stop =>
    rintro D c pre V hD ⟨rfl, hex, hbel, hcell⟩ hK
    have HK := Lib.hid hK; have HEx := Lib.hid hex; have HBel := Lib.hid hbel; have HCell := Lib.hid hcell
    clear hK hex hbel hcell
    gi_wp2
    try rw [Exit.noGoto_ret]
    refine bodyM_ret1 (v := .bool true) D HK.out (results_cell1 rfl rfl (loadVar_one Tryz.underlying4 rfl ?_)) rfl ⟨?_, ?_⟩
    · rw [cell_putObj (by omega)]; exact HCell.out
    · rw [show ((elems (nget ds 0)).any fun v => decide (v < r.nums.length) && hasD (nget ds 1) (iget r.nums v)) = true by rw [List.any_eq_true]; exact HEx.out]
    · exact below_putObj HBel.out (by omega) _
end Go.Proofs.YtdmmegmkdhinjaaGreatDoor

namespace Go.Proofs.YtdmmegmkdhinjaaGreatDoor
open Go Go.RowKit
attribute [local go_sem] cell_grow u64_sAnd u64_sOr u64_sDiff sDiff_all zeqI zneI sAnd_bit_zero sAnd_bit_zeroN sAnd_bit_nonzero

def spotV (a t : Nat) : Value := .agg #[.int .i64 (a : Nat), .int .u64 (t : Nat)]
theorem spot_fields : (Tryz.prog.fieldsOf 190).toList.map (fun f => (f.name, f.type, f.offset)) = [("at", 3, 0), ("taken", 56, 1)] := by
  kernel_rfl
theorem eq_int {P : Program} (d : Nat) {T : TypeId} {k : IntKind} (hT : P.underlying T = some (.int k)) (a b : Int) (w : World) : (Op.equalIn (d + 1) T (.int k a) (.int k b)).run P w = .ok (a == b) w := by
  unfold Op.equalIn
  rw [Sem.run_bind, run_underlying hT w, Result.andThen_ok]
  show ((if k = k then (pure (a == b) : Sem Bool) else _)).run P w = _
  rw [if_pos rfl]
  rfl
theorem part_int {P : Program} {T : TypeId} {k : IntKind} (hT : P.underlying T = some (.int k)) (xs : Array Value) (o : Nat) (x : Value) (hx : xs[o]? = some x) (w : World) : (part T xs o).run P w = .ok x w := by
  have hagg : (isAgg T).run P w = .ok false w := by
    unfold isAgg
    rw [Sem.run_bind, run_underlying hT w]
    rfl
  unfold part
  rw [Sem.run_bind, hagg, Result.andThen_ok]
  simp only [Bool.false_eq_true, if_false, hx]
  rfl
theorem eqFields_two (d : Nat) (fs : List Field) (a b t u : Nat) (w : World) (h : fs.map (fun f => (f.name, f.type, f.offset)) = [("at", 3, 0), ("taken", 56, 1)]) :
    (Op.eqFields (d + 1) #[.int .i64 (a : Nat), .int .u64 (t : Nat)] #[.int .i64 (b : Nat), .int .u64 (u : Nat)] fs).run Tryz.prog w = .ok (((a : Int) == (b : Int)) && ((t : Int) == (u : Int))) w := by
  rcases fs with _ | ⟨f1, _ | ⟨f2, _ | ⟨f3, fs⟩⟩⟩
  · simp at h
  · simp at h
  · simp only [List.map_cons, List.map_nil, List.cons.injEq, Prod.mk.injEq, and_true] at h
    obtain ⟨⟨h1, h2, h3⟩, h4, h5, h6⟩ := h
    have e1 := Tryz.underlying3
    have e2 := Tryz.underlying56
    have n1 : f1.name ≠ "_" := by rw [h1]; decide
    have n2 : f2.name ≠ "_" := by rw [h4]; decide
    unfold Op.eqFields Op.eqFields Op.eqFields
    rw [if_pos n1, if_pos n2, h2, h3, h5, h6]
    rw [Sem.run_bind, part_int e1 #[.int .i64 (a : Nat), .int .u64 (t : Nat)] 0 (.int .i64 (a : Nat)) rfl, Result.andThen_ok, Sem.run_bind, part_int e1 #[.int .i64 (b : Nat), .int .u64 (u : Nat)] 0 (.int .i64 (b : Nat)) rfl, Result.andThen_ok, Sem.run_bind, eq_int d e1, Result.andThen_ok]
    cases hA : ((a : Int) == (b : Int))
    · rfl
    · rw [if_neg (by simp), Sem.run_bind, part_int e2 #[.int .i64 (a : Nat), .int .u64 (t : Nat)] 1 (.int .u64 (t : Nat)) rfl, Result.andThen_ok, Sem.run_bind, part_int e2 #[.int .i64 (b : Nat), .int .u64 (u : Nat)] 1 (.int .u64 (u : Nat)) rfl, Result.andThen_ok, Sem.run_bind, eq_int d e2, Result.andThen_ok]
      cases hB : ((t : Int) == (u : Int))
      · rfl
      · rfl
  · simp at h
theorem spot_eq (a b t u : Nat) (w : World) : (Op.equal 190 (spotV a t) (spotV b u)).run Tryz.prog w = .ok (((a : Int) == (b : Int)) && ((t : Int) == (u : Int))) w := by
  have h := run_equalIn_struct (P := Tryz.prog) (w := w) 9999 190 #[.int .i64 (a : Nat), .int .u64 (t : Nat)] #[.int .i64 (b : Nat), .int .u64 (u : Nat)] (by kernel_rfl) (by kernel_rfl)
  have h2 : (Op.equal 190 (spotV a t) (spotV b u)).run Tryz.prog w = (Op.eqFields 9999 #[.int .i64 (a : Nat), .int .u64 (t : Nat)] #[.int .i64 (b : Nat), .int .u64 (u : Nat)] (Tryz.prog.fieldsOf 190).toList).run Tryz.prog w := h
  rw [h2]
  exact eqFields_two 9998 _ a b t u w spot_fields
/-- What a memory of choices says of one: its number and what was found. -/
def memFind (a t : Nat) : List ((Nat × Nat) × Bool) → Nat → Option (Nat × Value)
  | [], _ => none
  | x :: xs, i => if ((a : Int) == (x.1.1 : Int) && (t : Int) == (x.1.2 : Int)) = true then some (i, .bool x.2) else memFind a t xs (i + 1)
def entV (x : (Nat × Nat) × Bool) : Value × Value := (spotV x.1.1 x.1.2, .bool x.2)
theorem spot_under : Tryz.prog.underlying 190 = some (.struct (Tryz.prog.fieldsOf 190)) := by kernel_rfl
theorem run_asking (a t : Nat) : ∀ (es : List MapEntry) (M : List ((Nat × Nat) × Bool)) (i : Nat) (w : World), es.map (fun e => (e.key, e.val)) = M.map entV →
    (Instr.findAsking 190 (spotV a t) es i).run Tryz.prog w = .ok (memFind a t M i) w
  | [], M, i, w, h => by
    have : M = [] := by cases M with
      | nil => rfl
      | cons x xs => simp at h
    subst this
    rfl
  | e :: es, [], i, w, h => by simp at h
  | e :: es, x :: xs, i, w, h => by
    simp only [List.map_cons, List.cons.injEq] at h
    obtain ⟨h1, h2⟩ := h
    unfold entV at h1
    simp only [Prod.mk.injEq] at h1
    unfold Instr.findAsking memFind
    rw [Sem.run_bind, h1.1, spot_eq, Result.andThen_ok]
    cases hc : ((a : Int) == (x.1.1 : Int) && (t : Int) == (x.1.2 : Int))
    · simp only [Bool.false_eq_true, if_false]
      exact run_asking a t es xs (i + 1) w h2
    · simp only [if_true]
      rw [h1.2]
      rfl
theorem run_findSpot (a t : Nat) (es : List MapEntry) (M : List ((Nat × Nat) × Bool)) (w : World) (h : es.map (fun e => (e.key, e.val)) = M.map entV) :
    (Instr.findKey 190 (spotV a t) es).run Tryz.prog w = .ok (memFind a t M 0) w := by
  have hfs := spot_under
  generalize Tryz.prog.fieldsOf 190 = fs at hfs
  unfold Instr.findKey
  rw [Sem.run_bind, run_underlying hfs w, Result.andThen_ok]
  cases es with
  | nil =>
    have : M = [] := by cases M with
      | nil => rfl
      | cons x xs => simp at h
    subst this
    rfl
  | cons e es =>
    have hn : Instr.findNow (.struct fs) (spotV a t) (e :: es) 0 = none := rfl
    rw [hn]
    exact run_asking a t (e :: es) M 0 w h
set_option maxRecDepth 100000 in
theorem run_checkSpot (b : Bool) (a t : Nat) (w : World) : (Instr.checkKey b 10000 190 (spotV a t)).run Tryz.prog w = .ok () w := by
  kernel_rfl
theorem getObj_map {P : Program} {w : World} {r : Nat} {es : Array MapEntry} {c : Nat} (h : w.heap[r]? = some (.map es c)) : (getObj r).run P w = .ok (.map es c) w := by
  simp only [getObj, Sem.run, h]
theorem setObj_map {P : Program} {w : World} {r : Nat} {es : Array MapEntry} {c : Nat} (o : Obj) (h : w.heap[r]? = some (.map es c)) : (setObj r o).run P w = .ok () (w.putObj r o) := by
  simp only [setObj, Sem.run, h]
  rfl
/-- A memory of choices in block mb. -/
def MemAt (w : World) (mb : Nat) (M : List ((Nat × Nat) × Bool)) : Prop := ∃ (es : Array MapEntry) (c : Nat), w.heap[mb]? = some (.map es c) ∧ es.toList.map (fun e => (e.key, e.val)) = M.map entV
theorem MemAt.lt {w : World} {mb : Nat} {M : List ((Nat × Nat) × Bool)} (h : MemAt w mb M) : mb < w.heap.size := by
  obtain ⟨es, c, h1, _⟩ := h
  exact (Array.getElem?_eq_some_iff.1 h1).1
theorem MemAt.same {w w' : World} {mb : Nat} {M : List ((Nat × Nat) × Bool)} (h : MemAt w mb M) (hb : ∀ o, w.heap[mb]? = some o → w'.heap[mb]? = some o) : MemAt w' mb M := by
  obtain ⟨es, c, h1, h2⟩ := h
  exact ⟨es, c, hb _ h1, h2⟩
theorem run_memLook {w : World} {mb : Nat} {M : List ((Nat × Nat) × Bool)} (h : MemAt w mb M) (a t : Nat) {i : Nat} {v : Value} (hf : memFind a t M 0 = some (i, v)) :
    (Instr.lookup 187 (.map (some mb)) (spotV a t) true).run Tryz.prog w = .ok (.tuple #[v, .bool true]) w := by
  obtain ⟨es, c, h1, h2⟩ := h
  unfold Instr.lookup
  rw [Sem.run_bind, run_underlying Tryz.underlying187 w, Result.andThen_ok]
  simp only [Sem.run_bind, getObj_map h1, Result.andThen_ok, Sem.run_pure, run_checkSpot, run_findSpot a t es.toList M w h2, hf]
  rfl
theorem run_memMiss {w : World} {mb : Nat} {M : List ((Nat × Nat) × Bool)} (h : MemAt w mb M) (a t : Nat) (hf : memFind a t M 0 = none) :
    (Instr.lookup 187 (.map (some mb)) (spotV a t) true).run Tryz.prog w = .ok (.tuple #[.bool false, .bool false]) w := by
  obtain ⟨es, c, h1, h2⟩ := h
  unfold Instr.lookup
  rw [Sem.run_bind, run_underlying Tryz.underlying187 w, Result.andThen_ok]
  simp only [Sem.run_bind, getObj_map h1, Result.andThen_ok, Sem.run_pure, run_checkSpot, run_findSpot a t es.toList M w h2, hf, Tryz.zeroValue4]
  rfl
theorem run_memPut {w : World} {mb : Nat} {M : List ((Nat × Nat) × Bool)} (h : MemAt w mb M) (a t : Nat) (b : Bool) (hf : memFind a t M 0 = none) :
    ∃ o, (Instr.mapUpdate 187 (.map (some mb)) (spotV a t) (.bool b)).run Tryz.prog w = .ok () (w.putObj mb o) ∧ MemAt (w.putObj mb o) mb (M ++ [((a, t), b)]) := by
  have hlt := h.lt
  obtain ⟨es, c, h1, h2⟩ := h
  refine ⟨.map (es.push { key := spotV a t, val := .bool b, born := c }) (c + 1), ?_, ⟨_, _, World.putObj_heap_same hlt, ?_⟩⟩
  · unfold Instr.mapUpdate
    rw [Sem.run_bind, run_underlying Tryz.underlying187 w, Result.andThen_ok]
    simp only [Sem.run_bind, getObj_map h1, Result.andThen_ok, run_checkSpot, run_findSpot a t es.toList M w h2, hf]
    rw [setObj_map _ h1]
  · rw [Array.toList_push, List.map_append, h2, List.map_append]
    rfl
end Go.Proofs.YtdmmegmkdhinjaaGreatDoor
