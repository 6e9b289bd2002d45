/- Package sets: allowed, possible. · Package sets: possible. · Package sets: follows. · Package sets: boundsOf. · Package sets: Holds. · Package sets: Holds itself. · Package sets: about, Follows. -/
import Derived.Test.YtilbbnjfaoldoaaGreatDoorBA
import Derived.Laws.CopyOwn
namespace Go.Proofs.YtilbbnjfaoldoaaGreatDoor
open Go Go.RowKit
attribute [local go_sem] cell_grow u64_sAnd u64_sOr u64_sDiff sDiff_all zeqI zneI sAnd_bit_zero sAnd_bit_zeroN sAnd_bit_nonzero
theorem allowedAt_true {xs : List Bnd} {e : Nat} {is : Bool} {k mask : Nat} (h : allowedAt (bget xs k) e is = true) (hm : mask.testBit k = is)
    (hall : ∀ j, j < k → allowedAt (bget xs j) e (mask.testBit j) = true) : ∀ j, j < k + 1 → allowedAt (bget xs j) e (mask.testBit j) = true := by
  intro j hj
  by_cases hjk : j = k
  · subst hjk; rw [hm]; exact h
  · exact hall j (by omega)
theorem allowedB_true {xs : List Bnd} {e mask : Nat} (hall : ∀ j, j < xs.length → allowedAt (bget xs j) e (mask.testBit j) = true) : allowedB xs e mask = true := by
  unfold allowedB; simpa using hall
theorem allowedB_false {xs : List Bnd} {e : Nat} {is : Bool} {k mask : Nat} (h : allowedAt (bget xs k) e is = false) (hk : k < xs.length) (hm : mask.testBit k = is) : allowedB xs e mask = false := by
  rw [Bool.eq_false_iff]; intro hc
  unfold allowedB at hc
  rw [List.all_eq_true] at hc
  have := hc k (List.mem_range.2 hk)
  rw [hm, h] at this
  cases this
set_option maxHeartbeats 400000 in
theorem allowed_any (l : Value) (xs : List Bnd) (e mask : Nat) (w : World) {B : Nat} (hr : Bnds w B l xs) (hB : B ≤ w.heap.size) (he : e < 64) (hm : mask < 4096) (hx : xs.length ≤ 8) (hu : U64s xs) :
    Gives Tryz.prog 80 #[l, .int .i64 e, .int .i64 mask] w (.bool (allowedB xs e mask)) := by
  obtain ⟨_, a, cap, rfl, hc, _, hr⟩ := hr.mono hB
  clear hB
  unfold Gives
  go_enter Tryz.func80, Tryz.ntmps80
  go_wp2
  go_loopw [12] (fun i wr => ∃ k : Nat, k ≤ xs.length ∧ i = .int .i64 k ∧ (∀ j, j < k → allowedAt (bget xs j) e (mask.testBit j) = true) ∧ Below w.heap.size w wr)
    (fun i _ => xs.length - (intOf i).toNat)
  case atStart => exact ⟨0, Nat.zero_le _, rfl, fun j hj => absurd hj (Nat.not_lt_zero _), Below.refl _ _⟩
  case round =>
    obtain ⟨k, hk, rfl, hall, hb⟩ := hrel
    by_cases hlt : k < xs.length
    · obtain ⟨b, off, rfl, hbs, hcell⟩ := hr (by omega)
      have c0 : wr.cell? ⟨b, off + k * 2, none⟩ = some (.int .u64 ((bget xs k).inn : Nat)) := by rw [← bcellAt_inn]; exact rowCell hcell hb hbs _ (by omega) rfl rfl
      have c1 : wr.cell? ⟨b, off + k * 2 + 1, none⟩ = some (.int .u64 ((bget xs k).can : Nat)) := by rw [← bcellAt_can]; exact rowCell hcell hb hbs _ (by omega) rfl rfl
      clear hcell hr
      have hu1 := hu.get k
      have mb := mask_bit mask k (by omega)
      have hu2 := hu1.1; have hu3 := hu1.2; have hue := U64.bit he
      have Hall := Lib.hid hall
      clear hall hu hu1
      cases hbit : mask.testBit k <;> rw [hbit] at mb <;> have Hbit := Lib.hid hbit <;> clear hbit
      · cases hib : (bget xs k).inn.testBit e
        · go_wp2
          refine wp_region_qb (by kernel_rfl) (by kernel_rfl) ?_
          repeat go_big_quiet_step ((exact Gives.quiet (Gives.of_same (one_any e _ he))))
          refine wpQuiet_nil ?_
          intro w2 hb2
          go_wp2
          go_roundw
          case rel => exact ⟨k + 1, by omega, by go_num, allowedAt_true (by simp [allowedAt, hib]) Hbit.out Hall.out, (hb.alloc hb.size _).trans (hb2.mono (by have := hb.size; simp; omega))⟩
          case measure => simp [intOf]; omega
        · go_wp2
          refine wp_region_qb (by kernel_rfl) (by kernel_rfl) ?_
          repeat go_big_quiet_step ((exact Gives.quiet (Gives.of_same (one_any e _ he))))
          refine wpQuiet_nil ?_
          intro w2 hb2
          go_wp2
          go_ret
          exact ⟨by rw [allowedB_false (is := false) (by simp [allowedAt, hib]) hlt Hbit.out]; rfl, (hb.alloc hb.size _).trans (hb2.mono (by have := hb.size; simp; omega))⟩
      · cases hib : (bget xs k).can.testBit e
        · go_wp2
          refine wp_region_qb (by kernel_rfl) (by kernel_rfl) ?_
          repeat go_big_quiet_step ((exact Gives.quiet (Gives.of_same (one_any e _ he))))
          refine wpQuiet_nil ?_
          intro w2 hb2
          go_wp2
          go_ret
          exact ⟨by rw [allowedB_false (is := true) (by simp [allowedAt, hib]) hlt Hbit.out]; rfl, (hb.alloc hb.size _).trans (hb2.mono (by have := hb.size; simp; omega))⟩
        · go_wp2
          refine wp_region_qb (by kernel_rfl) (by kernel_rfl) ?_
          repeat go_big_quiet_step ((exact Gives.quiet (Gives.of_same (one_any e _ he))))
          refine wpQuiet_nil ?_
          intro w2 hb2
          go_wp2
          go_roundw
          case rel => exact ⟨k + 1, by omega, by go_num, allowedAt_true (by simp [allowedAt, hib]) Hbit.out Hall.out, (hb.alloc hb.size _).trans (hb2.mono (by have := hb.size; simp; omega))⟩
          case measure => simp [intOf]; omega
    · go_wp2
      go_ret
      have : k = xs.length := by omega
      subst this
      exact ⟨by rw [allowedB_true hall]; rfl, hb⟩

/-- Sets of elements alone. -/
def S12 (b : List Bnd) : Prop := ∀ x ∈ b, x.inn < 4096 ∧ x.can < 4096
theorem S12.u64 {b : List Bnd} (h : S12 b) : U64s b := fun x hx => ⟨Nat.lt_trans (h x hx).1 (by decide), Nat.lt_trans (h x hx).2 (by decide)⟩
theorem S12.get {b : List Bnd} (h : S12 b) (v : Nat) : (bget b v).inn < 4096 ∧ (bget b v).can < 4096 := by
  unfold bget
  by_cases hv : v < b.length
  · rw [List.getElem?_eq_getElem hv]; exact h _ (List.getElem_mem hv)
  · rw [List.getElem?_eq_none (by omega)]; exact ⟨by show (0 : Nat) < _; decide, by show (0 : Nat) < _; decide⟩
theorem S12.with {b : List Bnd} (h : S12 b) {v e : Nat} (he : e < 12) (inn : Bool) : S12 (withB b v e inn) := by
  have hg := h.get v
  unfold withB
  have key : ∀ x : Bnd, (x.inn < 4096 ∧ x.can < 4096) → S12 (b.set v x) := fun x hx y hy => by
    rcases List.mem_or_eq_of_mem_set hy with h1 | h1
    · exact h y h1
    · exact h1 ▸ hx
  cases inn
  · exact key _ ⟨hg.1, Nat.xor_lt_two_pow (n := 12) hg.2 (Nat.lt_of_le_of_lt Nat.and_le_left hg.2)⟩
  · exact key _ ⟨Nat.or_lt_two_pow (n := 12) hg.1 (Nat.pow_lt_pow_right (by decide) he), hg.2⟩
theorem S12.of {b : List Bnd} (h : S12 b) (vars : List Int) : S12 (ofB b vars) := fun x hx => by
  obtain ⟨v, _, rfl⟩ := List.mem_map.1 hx
  exact h.get _
/-- A rule that is as defined, of at most 8 variables. -/
def RFit (r : Rl) : Prop := (r.kind = 6 ∧ r.vars.length = 1 ∨ (r.kind = 1 ∨ r.kind = 2) ∧ r.vars.length = 2 ∨ (r.kind = 3 ∨ r.kind = 4 ∨ r.kind = 5) ∧ r.vars.length = 3) ∧ ∀ i, i < r.vars.length → 0 ≤ iget r.vars i ∧ iget r.vars i < 8
theorem RFit.of_ok {r : Rl} {many : Int} (h : ruleOk r many = true) (hm : many ≤ 8) : RFit r := by
  simp only [ruleOk, Bool.and_eq_true, Bool.not_eq_true', List.all_eq_true, List.mem_range, beq_iff_eq, beq_eq_false_iff_ne] at h
  obtain ⟨⟨⟨h1, h2⟩, h3⟩, _⟩ := h
  constructor
  · unfold varsN at h1 h2
    split at h2
    · left; exact ⟨by assumption, by omega⟩
    · split at h2
      · right; left; exact ⟨by assumption, by omega⟩
      · split at h2
        · right; right; exact ⟨by assumption, by omega⟩
        · rename_i h6 h12 h345; simp [h6, h12, h345] at h1
  · intro i hi
    have := h3 i hi
    simp only [varOk, inB, Bool.and_eq_true, decide_eq_true_eq] at this
    omega
end Go.Proofs.YtilbbnjfaoldoaaGreatDoor

namespace Go.Proofs.YtilbbnjfaoldoaaGreatDoor
open Go Go.RowKit
attribute [local go_sem] cell_grow u64_sAnd u64_sOr u64_sDiff sDiff_all zeqI zneI sAnd_bit_zero sAnd_bit_zeroN sAnd_bit_nonzero Oper.semAt_some wide_fn wide_depth

set_option maxHeartbeats 400000 in
theorem elements_any (s : Nat) (w : World) : Calls Tryz.prog 79 #[.int .u64 (s : Nat)] w fun e w' =>
    e = .returned (.func (.func 98) #[] #[.pointer (some ⟨w.heap.size, 0, none⟩)]) ∧ w.alloc (.cells #[.int .u64 (s : Nat)] 38) = w' := by
  go_enter Tryz.func79, Tryz.ntmps79
  go_wp2
  go_ret
  exact ⟨rfl, rfl⟩
def pow2 (n : Nat) : Nat := 2 ^ n
def bitAt (m k : Nat) : Bool := m.testBit k
theorem shl_pow {n : Nat} (h : n ≤ 8) : IntKind.i64.wrap (2 ^ n) = ((pow2 n : Nat) : Int) := by
  have h1 : 2 ^ n ≤ 2 ^ 8 := Nat.pow_le_pow_right (by decide) h
  have e : (2 : Int) ^ n = ((pow2 n : Nat) : Int) := by unfold pow2; simp
  rw [e]
  have h2 : pow2 n ≤ 256 := h1
  exact IntWalk.i64_in _ (by omega)
theorem bit_test (m k : Nat) (h : m < 4096) (hk : k < 12) : (bits .and .i64 (m : Int) ((2 ^ k : Nat) : Int) != 0) = bitAt m k := by
  rw [i64_and (by omega) (Nat.pow_lt_pow_right (by decide) (by omega))]
  exact sAnd_bit_nonzero m k
theorem elemOk_yes {l : List Bnd} {k : Int} {e m : Nat} (hm : m < pow2 l.length) (h1 : allowedB l e m = true) (h2 : asksB k (bitAt m 0) (bitAt m 1) (bitAt m 2) = true) : elemOk l k e = true := by
  unfold elemOk
  rw [List.any_eq_true]
  exact ⟨m, List.mem_range.2 hm, by rw [h1, Bool.true_and]; exact h2⟩
theorem elemOk_no {l : List Bnd} {k : Int} {e : Nat} (h : ∀ m, m < pow2 l.length → (allowedB l e m && asksB k (bitAt m 0) (bitAt m 1) (bitAt m 2)) = false) : elemOk l k e = false := by
  unfold elemOk
  rw [Bool.eq_false_iff]; intro hc
  obtain ⟨m, hm, h1⟩ := List.any_eq_true.1 hc
  have h2 := h m (List.mem_range.1 hm)
  unfold bitAt at h2
  rw [h2] at h1; cases h1
theorem elems_all : elems 4095 = List.range 12 := by decide +kernel
theorem elements_all (w : World) : Calls Tryz.prog 79 #[.int .u64 4095] w fun e w' =>
    e = .returned (.func (.func 98) #[] #[.pointer (some ⟨w.heap.size, 0, none⟩)]) ∧ w.alloc (.cells #[.int .u64 ((4095 : Nat) : Int)] 38) = w' := elements_any 4095 w
/-- What a rule of a kind that is no SetsCount asks: a function, and what it says. -/
theorem asked_any (k : Int) (w : World) (hk : k = 1 ∨ k = 2 ∨ k = 3 ∨ k = 4 ∨ k = 5) : ∃ fid : Nat, (∀ args w, (callFunc fid args).run Tryz.prog w = .ok (.enter fid args) w) ∧ (∀ a b c w, Gives Tryz.prog fid #[.agg #[.bool a, .bool b, .bool c]] w (.bool (asksB k a b c))) ∧
    Calls Tryz.prog 78 #[.int .i64 k] w fun e w' => e = .returned (.func (.func fid) #[] #[]) ∧ Below w.heap.size w w' := by
  rcases hk with rfl | rfl | rfl | rfl | rfl
  · exact ⟨93, enters_of Tryz.func93 (by kernel_rfl) rfl, sub_any, asked_1 w⟩
  · exact ⟨94, enters_of Tryz.func94 (by kernel_rfl) rfl, apart_any, asked_2 w⟩
  · exact ⟨95, enters_of Tryz.func95 (by kernel_rfl) rfl, join_any, asked_3 w⟩
  · exact ⟨96, enters_of Tryz.func96 (by kernel_rfl) rfl, meet_any, asked_4 w⟩
  · exact ⟨97, enters_of Tryz.func97 (by kernel_rfl) rfl, less_any, asked_5 w⟩

/-- Blocks that lay when a loop over elements began are as they were, but for the iterator's set. -/
structure Frm (Bs : Nat) (W0 W : World) : Prop where
  os : W.os = W0.os
  tape : W.tape = W0.tape
  output : W.output = W0.output
  size : W0.heap.size ≤ W.heap.size
  same : ∀ k, k < W0.heap.size → k ≠ Bs → W.heap[k]? = W0.heap[k]?
theorem Frm.refl (Bs : Nat) (W : World) : Frm Bs W W := ⟨rfl, rfl, rfl, Nat.le_refl _, fun _ _ _ => rfl⟩
theorem Frm.touched {Bs : Nat} {W0 W W' : World} (h : Frm Bs W0 W) (ht : Touched Bs W0.heap.size W W') : Frm Bs W0 W' :=
  ⟨ht.os.trans h.os, ht.tape.trans h.tape, ht.output.trans h.output, Nat.le_trans h.size ht.size, fun k hk hne => by
    have h1 := h.same k hk hne
    rw [Array.getElem?_eq_getElem hk] at h1 ⊢
    exact ht.same k _ h1 hne (.inl hk)⟩
theorem Frm.grow {Bs : Nat} {W0 W W' : World} (h : Frm Bs W0 W) (hb : Below W.heap.size W W') : Frm Bs W0 W' :=
  ⟨hb.os.trans h.os, hb.tape.trans h.tape, hb.output.trans h.output, Nat.le_trans h.size hb.size, fun k hk hne => (hb.block k (Nat.lt_of_lt_of_le hk h.size)).trans (h.same k hk hne)⟩
theorem Frm.below {B Bs : Nat} {w W0 W : World} (hb : Below B w W0) (h : Frm Bs W0 W) (hB : B ≤ Bs) (hs : B ≤ W0.heap.size) : Below B w W :=
  ⟨h.os.trans hb.os, h.tape.trans hb.tape, h.output.trans hb.output, Nat.le_trans hb.size h.size, fun k hk => (h.same k (by omega) (by omega)).trans (hb.block k hk)⟩
/-- .. as a world that lies behind another, below the iterator's set. -/
theorem Frm.under {Bs : Nat} {W0 W : World} (h : Frm Bs W0 W) (hs : Bs ≤ W0.heap.size) : Below Bs W0 W := Frm.below (Below.refl _ _) h (Nat.le_refl _) hs

theorem below_touched {B Bs L : Nat} {w W W' : World} (h : Below B w W) (ht : Touched Bs L W W') (hB : B ≤ Bs) (hL : B ≤ L) (hs : B ≤ w.heap.size) : Below B w W' :=
  ⟨ht.os.trans h.os, ht.tape.trans h.tape, ht.output.trans h.output, Nat.le_trans h.size ht.size, fun k hk => by
    have h1 := h.block k hk
    rw [Array.getElem?_eq_getElem (Nat.lt_of_lt_of_le hk hs)] at h1 ⊢
    exact ht.same k _ h1 (by omega) (.inl (by omega))⟩
theorem cell_touched {Bs L : Nat} {W W' : World} {b o : Nat} {v : Value} (h : W.cell? ⟨b, o, none⟩ = some v) (ht : Touched Bs L W W') (hb : b ≠ Bs) : W'.cell? ⟨b, o, none⟩ = some v := by
  unfold World.cell? at h ⊢
  cases ho : W.heap[b]? with
  | none => simp [ho] at h
  | some ob =>
    cases ob with
    | cells c t f => rw [ht.same b _ ho hb (.inr rfl)]; simpa [ho] using h
    | _ => simp [ho] at h
section
variable {F : Fence} {n : Nat} {P : Program} {fn : Func} {R : Ending → World → Prop}
theorem bodyM_ret0 {a : Act} {w : World} {v : Value} (hr : (results fn a.tmps).run P w = .ok v w) (hd : a.defers = []) (hR : R (.returned v) w) : bodyPostM F n P fn R .ret a w := by
  show LeavesInM F n P fn a.tmps R a.defers .returning w
  rw [hd]; exact ⟨v, hr, hR⟩
theorem bodyM_ret1 {a : Act} {w : World} {v : Value} (D : Nat) (hD : w.heap[D]? = some (.deferred (some []))) (hr : (results fn a.tmps).run P (w.putObj D (.deferred none)) = .ok v (w.putObj D (.deferred none)))
    (hd : a.defers = [{ target := .collected D, args := #[] }]) (hR : R (.returned v) (w.putObj D (.deferred none))) : bodyPostM F n P fn R .ret a w := by
  show LeavesInM F n P fn a.tmps R a.defers .returning w
  rw [hd]
  exact ⟨by simp, .inl ⟨_, _, rfl, run_takeDeferred hD, v, hr, hR⟩⟩
end
theorem cell_putObj {w : World} {D b o : Nat} {ob : Obj} (h : b ≠ D) : (w.putObj D ob).cell? ⟨b, o, none⟩ = w.cell? ⟨b, o, none⟩ := by simp only [World.cell?, World.putObj_heap_other h]
theorem below_putObj {B : Nat} {a w : World} (h : Below B a w) {D : Nat} (hD : B ≤ D) (o : Obj) : Below B a (w.putObj D o) :=
  ⟨h.os, h.tape, h.output, by simpa using h.size, fun k hk => (World.putObj_heap_other (by omega)).trans (h.block k hk)⟩
theorem possL_clash {l : List Bnd} {r : Rl} (h : clashB l = true) : possL l r = false := by simp [possL, h]
theorem possL_count {l : List Bnd} {r : Rl} (h : clashB l = false) (h6 : (r.kind == 6) = true) : possL l r = (decide ((popc (bget l 0).inn : Int) ≤ r.high) && decide (r.low ≤ popc (bget l 0).can)) := by simp [possL, h, h6]
theorem possL_else {l : List Bnd} {r : Rl} (h : clashB l = false) (h6 : (r.kind == 6) = false) : possL l r = (List.range 12).all (elemOk l r.kind) := by simp [possL, h, h6]
set_option maxRecDepth 100000 in
set_option maxHeartbeats 1000000 in
theorem possible_any (b : List Bnd) (hb8 : b.length = 8) (hS : S12 b) (r : Rl) (hfit : RFit r) (vv : Value) (w : World) {B : Nat} (hv : Ints w B vv r.vars) (hB : B ≤ w.heap.size) (hT : Tab w) (hw0 : 0 < w.heap.size) :
    Gives Tryz.prog 48 #[.agg (bCells b).toArray, .agg #[.int .i64 r.kind, vv, .int .i64 r.low, .int .i64 r.high]] w (.bool (possB b r)) := by
  unfold Gives
  have hlen : (ofB b r.vars).length = r.vars.length := by simp [ofB]
  obtain ⟨l, hl⟩ : ∃ l, l = ofB b r.vars := ⟨_, rfl⟩
  have hSl : S12 l := by rw [hl]; exact hS.of _
  have hul := hSl.u64
  have HV := Lib.hid hv; have HSL := Lib.hid hSl; have HUL := Lib.hid hul; have HT := Lib.hid hT; have HF := Lib.hid hfit
  have Hposs : Hid (possB b r = possL l r) := by rw [hl]; rfl
  obtain ⟨va, vc, rfl⟩ : ∃ a c, vv = .slice a r.vars.length c := by obtain ⟨_, a, cap, rfl, _⟩ := hv; exact ⟨_, _, rfl⟩
  have hr3 : r.vars.length ≤ 3 := by rcases hfit.1 with h | h | h <;> omega
  have HRG := Lib.hid (fun o2 o3 => bblock_range (heap_new3 w (.cells (bCells b).toArray 85) o2 o3).1)
  have hi16 : (Tryz.prog.info? 85).map (·.size) = some 16 := by kernel_rfl
  have HI := Lib.hid (show (Tryz.prog.info? 85).map (·.size) = some (bCells b).length by rw [bCells_length, hb8]; exact hi16)
  clear hi16
  have HL := Lib.hid hl
  clear hv hSl hul hT hfit hl
  refine callsIn_wide.1 (callsIn_of_wp_marks (n := 0) Tryz.func48 rfl trivial (wpIn_wide.2 ?_) rfl)
  simp only [Tryz.ntmps48, List.size_toArray, List.length_cons, List.length_nil, Nat.reduceAdd, Nat.reduceSub, Array.replicate_succ, Array.replicate_zero, List.push_toArray, List.append_toArray, List.nil_append, List.cons_append]
  go_wp2_with fail
  go_step3
  go_wp2_with (first | (refine wpList_load_mid rfl 85 _ rfl _ _ rfl _ _ (HRG.out _ _) Tryz.underlying85 rfl HI.out ?_) | fail)
  refine (of_any b hb8 r _ _ (HV.out.below (Below.new3 _ _ _ _) hB) (by simp; omega) hr3 HF.out.2).mono ?_
  rintro e w2 ⟨lv, rfl, hlv, hb2⟩
  rw [← HL.out] at hlv
  obtain ⟨la, lc, rfl⟩ : ∃ a c, lv = .slice a l.length c := by obtain ⟨_, a, cap, rfl, _⟩ := hlv; exact ⟨_, _, rfl⟩
  have hs2 : w.heap.size + 3 ≤ w2.heap.size := by have := hb2.size; simp at this; omega
  have hbw2 : Below w.heap.size w w2 := (Below.new3 _ _ _ _).trans (hb2.mono (by simp; omega))
  have hn3 := heap_new3 w (.cells (bCells b).toArray 85) (.cells #[.int .i64 r.kind, .slice va r.vars.length vc, .int .i64 r.low, .int .i64 r.high] 62) (.cells #[.bool false] 4)
  have hrb := heap_later hn3.2.1 hb2 (by simp)
  have hre := heap_later hn3.2.2 hb2 (by simp)
  have HLV := Lib.hid hlv; have HB2 := Lib.hid hb2; have HBW2 := Lib.hid hbw2; have HRB := Lib.hid hrb; have HRE := Lib.hid hre; have HS2 := Lib.hid hs2
  clear hlv hb2 hbw2 hrb hre hn3 hs2
  go_wp2_with fail
  refine (clash_any l _ _ (HLV.out.below (Below.new1 _ _) (Nat.le_refl _)) (by simp) HUL.out).mono ?_
  rintro e w3 ⟨rfl, hb3⟩
  have hs3 : w2.heap.size + 1 ≤ w3.heap.size := by have := hb3.size; simp at this; omega
  have hb23 : Below w2.heap.size w2 w3 := (Below.new1 _ _).trans (hb3.mono (by simp))
  have kl : w3.heap[w2.heap.size]? = some (.cells #[.slice la l.length lc] 22 (0, 0)) := heap_later (heap_new0 _ _) hb3 (by simp)
  have kr := heap_later HRB.out hb23 (by have := HS2.out; omega)
  have ke := heap_later HRE.out hb23 (by have := HS2.out; omega)
  have cl : w3.cell? ⟨w2.heap.size, 0, none⟩ = some (.slice la l.length lc) := by rw [cell_of_row _ _ _ _ _ _ kl]; rfl
  have cr0 : w3.cell? ⟨w.heap.size + 1, 0, none⟩ = some (.int .i64 r.kind) := by rw [cell_of_row _ _ _ _ _ _ kr]; rfl
  have cr2 : w3.cell? ⟨w.heap.size + 1, 2, none⟩ = some (.int .i64 r.low) := by rw [cell_of_row _ _ _ _ _ _ kr]; rfl
  have cr3 : w3.cell? ⟨w.heap.size + 1, 3, none⟩ = some (.int .i64 r.high) := by rw [cell_of_row _ _ _ _ _ _ kr]; rfl
  have ce : w3.cell? ⟨w.heap.size + 1 + 1, 0, none⟩ = some (.bool false) := by rw [cell_of_row _ _ _ _ _ _ ke]; rfl
  have fe : w3.frozen? ⟨w.heap.size + 1 + 1, 0, none⟩ = false := by simp [World.frozen?, ke]
  have hbw3 : Below w.heap.size w w3 := HBW2.out.trans (hb23.mono HBW2.out.size)
  have HB23 := Lib.hid hb23; have HBW3 := Lib.hid hbw3; have KL := Lib.hid kl; have KR := Lib.hid kr; have KE := Lib.hid ke; have HS3 := Lib.hid hs3
  clear hb3 hb23 hbw3 kl kr ke hs3
  cases hcl : clashB l
  case true =>
    go_wp2
    rw [Exit.noGoto_ret]
    refine bodyM_ret0 (v := .bool false) (results_cell1 rfl rfl ?_) rfl ⟨by rw [Hposs.out, possL_clash hcl], HBW3.out.setCell (by simp; omega) _⟩
    exact loadVar_one Tryz.underlying4 rfl (World.cell?_setCell_same _ _ _ ce)
  case false =>
    cases h6 : (r.kind == 6)
    case true =>
      have hl1 : l.length = 1 := by
        have hk : r.kind = 6 := by simpa using h6
        rcases HF.out.1 with h | h | h
        · rw [HL.out, hlen]; exact h.2
        · omega
        · omega
      obtain ⟨_, a', c', hae, _, _, hrow⟩ := HLV.out
      cases hae
      obtain ⟨lb, loff, rfl, hlb, hcell⟩ := hrow (by omega)
      have q0 : w3.cell? ⟨lb, loff, none⟩ = some (.int .u64 ((bget l 0).inn : Nat)) := by
        rw [← bcellAt_inn l 0]; exact (HB23.out.cell (p := ⟨lb, loff, none⟩) hlb).trans (hcell 0 (by omega))
      have q1 : w3.cell? ⟨lb, loff + 1, none⟩ = some (.int .u64 ((bget l 0).can : Nat)) := by
        rw [← bcellAt_can l 0]; exact (HB23.out.cell (p := ⟨lb, loff + 1, none⟩) hlb).trans (hcell 1 (by omega))
      have g1 := HSL.out.get 0
      have ga := g1.1; have gb := g1.2
      have z1 : lb < w3.heap.size := by have := HS3.out; omega
      have z2 : w2.heap.size < w3.heap.size := by have := HS3.out; omega
      have z3 : w.heap.size + 1 < w3.heap.size := by have := HS3.out; have := HS2.out; omega
      have z4 : w.heap.size + 1 + 1 < w3.heap.size := by have := HS3.out; have := HS2.out; omega
      have hPC := Lib.hid (possL_count hcl h6)
      have GA := Lib.hid ga; have GB := Lib.hid gb
      have HL1 := Lib.hid hl1
      have l0 : 0 < l.length := by omega
      clear hcell hrow g1 ga gb hl1
      cases hA : decide ((popc (bget l 0).inn : Int) ≤ r.high) <;> cases hC : decide (r.low ≤ (popc (bget l 0).can : Int))
      all_goals
        go_wp2
        refine wp_region_qbt 18 (by kernel_rfl) (by kernel_rfl) ?_
        simp only [List.take_succ_cons, List.take_zero, List.drop_succ_cons, List.drop_zero]
        repeat go_big_quiet_step ((first | (with_reducible exact Gives.quiet (Gives.of_same (ones_any _ GA.out _))) | (with_reducible exact Gives.quiet (Gives.of_same (ones_any _ GB.out _)))))
        refine wpQuiet_nil ?_
        intro w4 hb4
        have ce4 := ce; have fe4 := fe
        rw [← (bcell hb4).1 _ _ (by omega)] at ce4
        rw [← (bcell hb4).2 _ _ (by omega)] at fe4
        go_wp2
        rw [Exit.noGoto_ret]
        refine bodyM_ret0 (results_cell1 rfl rfl (loadVar_one Tryz.underlying4 rfl (World.cell?_setCell_same _ _ _ ce4))) rfl ⟨?_, (HBW3.out.trans (hb4.mono HBW3.out.size)).setCell (by simp; omega) _⟩
        rw [Hposs.out, hPC.out, hA, hC]
        rfl
    case false =>
      have hk5 : r.kind = 1 ∨ r.kind = 2 ∨ r.kind = 3 ∨ r.kind = 4 ∨ r.kind = 5 := by
        rcases HF.out.1 with h | h | h
        · have := h.1; simp [this] at h6
        · rcases h.1 with h | h <;> simp [h]
        · rcases h.1 with h | h | h <;> simp [h]
      obtain ⟨fid, heg, hask, hcall⟩ := asked_any r.kind w3 hk5
      have HAsk := Lib.hid hask; have HCall := Lib.hid hcall; have HEl := Lib.hid (possL_else hcl h6)
      clear hask hcall hk5
      go_wp2_with fail
      refine HCall.out.mono ?_
      rintro e w4 ⟨rfl, hb4⟩
      have HB4 := Lib.hid hb4; clear hb4 cl cr0 cr2 cr3 ce fe
      go_wp2_with fail
      go_step3
      go_wp2_with fail
      refine (elements_all _).mono ?_
      rintro e w5 ⟨rfl, hw5⟩
      obtain ⟨W4, hW4⟩ : ∃ W4, W4 = w4.alloc (.cells #[.func (.func fid) #[] #[]] 115) := ⟨_, rfl⟩
      have hs4 : w3.heap.size + 1 ≤ W4.heap.size := by rw [hW4]; have := HB4.out.size; simp; omega
      have hb34 : Below w3.heap.size w3 W4 := by rw [hW4]; exact HB4.out.alloc HB4.out.size _
      have k6 : W4.heap[w4.heap.size]? = some (.cells #[.func (.func fid) #[] #[]] 115 (0, 0)) := by rw [hW4]; exact heap_new0 _ _
      have hs45 : w4.heap.size + 1 = W4.heap.size := by rw [hW4]; simp
      rw [← hW4] at hw5 ⊢
      have hs34 : w3.heap.size ≤ w4.heap.size := HB4.out.size
      clear hW4
      have kB : w5.heap[W4.heap.size]? = some (.cells #[.int .u64 ((4095 : Nat) : Int)] 38 (0, 0)) := by rw [← hw5]; exact heap_new0 _ _
      have hb45 : Below W4.heap.size W4 w5 := by rw [← hw5]; exact Below.new1 _ _
      have hs5 : W4.heap.size + 1 = w5.heap.size := by rw [← hw5]; simp
      clear hw5
      have hb35 : Below w3.heap.size w3 w5 := hb34.trans (hb45.mono hb34.size)
      have kl5 := heap_later KL.out hb35 (by have := HS3.out; omega)
      have kr5 := heap_later KR.out hb35 (by have := HS3.out; have := HS2.out; omega)
      have ke5 := heap_later KE.out hb35 (by have := HS3.out; have := HS2.out; omega)
      have k65 := heap_later k6 hb45 (by omega)
      have hlv5 : Bnds w5 w2.heap.size (.slice la l.length lc) l := (HLV.out.below (HB23.out.trans (hb35.mono (by have := HS3.out; omega))) (Nat.le_refl _))
      have hbw5 : Below w.heap.size w w5 := HBW3.out.trans (hb35.mono HBW3.out.size)
      have hT5 : Tab w5 := HT.out.below hbw5 hw0
      have KB := Lib.hid kB; have HBW5 := Lib.hid hbw5; have HT5 := Lib.hid hT5; have HLV5 := Lib.hid hlv5; have KL5 := Lib.hid kl5; have KE5 := Lib.hid ke5; have K65 := Lib.hid k65
      have HSZ := Lib.hid (show w.heap.size + 3 ≤ w2.heap.size ∧ w2.heap.size + 1 ≤ w4.heap.size ∧ w4.heap.size + 1 = W4.heap.size ∧ W4.heap.size + 1 = w5.heap.size from ⟨HS2.out, by have := HS3.out; omega, hs45, hs5⟩)
      clear kB hbw5 hT5 hlv5 kl5 kr5 ke5 k65 hb35 hb34 hb45 k6 hs4 hs45 hs5 hs34
      go_wp2_with fail
      refine wpIn_wide.1 (rangeElems (n := 0) W4.heap.size 4095 rfl (by show (4095 : Nat) < _; decide) KB.out (by have := HSZ.out; have := hw0; show W4.heap.size ≠ 0; omega)
        (fun pre W => Frm W4.heap.size w5 W ∧ ∀ e ∈ pre, elemOk l r.kind e = true)
        (fun c pre W => c = Code.ret ∧ (∃ e ∈ elems 4095, elemOk l r.kind e = false) ∧ Below w.heap.size w W ∧ W.cell? ⟨w.heap.size + 1 + 1, 0, none⟩ = some (.bool false))
        (fun pre W W' h ht => ⟨h.1.touched ht, h.2⟩)
        (fun c pre W W' h ht => ⟨h.1, h.2.1, below_touched h.2.2.1 ht (by have := HSZ.out; omega) (by have := HSZ.out; omega) (Nat.le_refl _), cell_touched h.2.2.2 ht (by have := HSZ.out; omega)⟩)
        (fun pre W h => HT5.out.below (h.1.under (by have := HSZ.out; omega)) (by have := HSZ.out; omega)) ⟨Frm.refl _ _, fun e he => absurd he (by simp)⟩ ?round ?done ?stop)
      case round =>
        intro lp pre x rest W hel
        gi_wp2
        refine ⟨trivial, ?_⟩
        rintro W2 ⟨hfrm, hpre⟩ hBs0 hL2
        have hBs := hBs0.lt
        clear hBs0
        have hu : Below W4.heap.size w5 W2 := hfrm.under (by have := HSZ.out; omega)
        have cl : W2.cell? ⟨w2.heap.size, 0, none⟩ = some (.slice la l.length lc) := by rw [cell_of_row _ _ _ _ _ _ (heap_later KL5.out hu (by have := HSZ.out; omega))]; rfl
        have c6 : W2.cell? ⟨w4.heap.size, 0, none⟩ = some (.func (.func fid) #[] #[]) := by rw [cell_of_row _ _ _ _ _ _ (heap_later K65.out hu (by have := HSZ.out; omega))]; rfl
        have ke := heap_later KE5.out hu (by have := HSZ.out; omega)
        have hlv2 := HLV5.out.below hu (by have := HSZ.out; omega)
        have hx12 : x < 12 := by
          have : x ∈ elems 4095 := by rw [hel]; simp
          rw [elems_all] at this; exact List.mem_range.1 this
        have HU := Lib.hid hu; have KE2 := Lib.hid ke; have HLV2 := Lib.hid hlv2; have HFrm := Lib.hid hfrm; have HPre := Lib.hid hpre; have HEL := Lib.hid hel
        clear hu ke hlv2 hfrm hpre hel
        have hl8 : l.length ≤ 8 := by rw [HL.out, hlen]; omega
        have hsh := shl_pow hl8
        have hp8 : pow2 l.length ≤ 256 := Nat.pow_le_pow_right (by decide) hl8
        gi_wp2
        gi_loopw [43] (fun i wr => ∃ m : Nat, m ≤ pow2 l.length ∧ i = .int .i64 m ∧ (∀ j, j < m → (allowedB l x j && asksB r.kind (bitAt j 0) (bitAt j 1) (bitAt j 2)) = false) ∧ Below W2.heap.size W2 wr) (fun i _ => pow2 l.length - (intOf i).toNat)
        case atStart => exact ⟨0, Nat.zero_le _, rfl, fun j hj => absurd hj (Nat.not_lt_zero _), Below.refl _ _⟩
        case round =>
          obtain ⟨m, hm, rfl, hall, hb⟩ := hrel
          have Hall := Lib.hid hall; have HB := Lib.hid hb
          have hz : W2.heap.size ≤ wr.heap.size := hb.size
          have hZ := Lib.hid hz
          have dl : wr.cell? ⟨w2.heap.size, 0, none⟩ = some (.slice la l.length lc) := (hb.cell (p := ⟨w2.heap.size, 0, none⟩) (by show w2.heap.size < _; have := HSZ.out; omega)).trans cl
          have d6 : wr.cell? ⟨w4.heap.size, 0, none⟩ = some (.func (.func fid) #[] #[]) := (hb.cell (p := ⟨w4.heap.size, 0, none⟩) (by show w4.heap.size < _; have := HSZ.out; omega)).trans c6
          have hke := heap_later KE2.out hb (by have := HSZ.out; omega)
          have KE3 := Lib.hid hke
          clear hall hb hz hke
          by_cases hlt : m < pow2 l.length
          · have t0 : (bits .and .i64 (m : Int) 1 != 0) = bitAt m 0 := bit_test m 0 (by omega) (by omega)
            have t1 : (bits .and .i64 (m : Int) 2 != 0) = bitAt m 1 := bit_test m 1 (by omega) (by omega)
            have t2 : (bits .and .i64 (m : Int) 4 != 0) = bitAt m 2 := bit_test m 2 (by omega) (by omega)
            gi_wp2_with fail
            refine (CallsIn.inRound lp (callsIn_wide.2 (allowed_any _ l x m _ (HLV2.out.below HB.out (by have := HSZ.out; omega)) (by have := HSZ.out; have := hZ.out; omega) (by omega) (by omega) hl8 HUL.out))).mono ?_
            rintro e w6 ⟨rfl, hb6⟩
            have e6 : w6.cell? ⟨w4.heap.size, 0, none⟩ = some (.func (.func fid) #[] #[]) := (hb6.cell (p := ⟨w4.heap.size, 0, none⟩) (by show w4.heap.size < _; have := HSZ.out; have := hZ.out; omega)).trans d6
            have hb26 := HB.out.trans (hb6.mono hZ.out)
            have HB26 := Lib.hid hb26; clear hb6 hb26
            cases hA : allowedB l x m
            case false =>
              gi_wp2
              refine ⟨⟨m + 1, by omega, by go_num, fun j hj => if h : j = m then by subst h; rw [hA]; rfl else Hall.out j (by omega), HB26.out⟩, by simp [intOf]; omega⟩
            case true =>
              gi_wp2_with fail
              refine (CallsIn.inRound lp (callsIn_wide.2 (HAsk.out _ _ _ _))).mono ?_
              rintro e w7 ⟨rfl, hb7⟩
              have HB27 := Lib.hid (HB26.out.trans (hb7.mono HB26.out.size)); clear hb7
              cases hQ : asksB r.kind (bitAt m 0) (bitAt m 1) (bitAt m 2)
              case false =>
                gi_wp2
                refine ⟨⟨m + 1, by omega, by go_num, fun j hj => if h : j = m then by subst h; rw [hA, hQ]; rfl else Hall.out j (by omega), HB27.out⟩, by simp [intOf]; omega⟩
              case true =>
                gi_wp2
                exact ⟨(Keep.refl _ _ _).below HB27.out, HFrm.out.grow HB27.out, fun e he => by
                  rcases List.mem_append.1 he with he | he
                  · exact HPre.out e he
                  · rw [List.mem_singleton.1 he]; exact elemOk_yes hlt hA hQ⟩
          · have hm2 : m = pow2 l.length := by omega
            have ce : wr.cell? ⟨w.heap.size + 1 + 1, 0, none⟩ = some (.bool false) := by rw [cell_of_row _ _ _ _ _ _ KE3.out]; rfl
            have fe : wr.frozen? ⟨w.heap.size + 1 + 1, 0, none⟩ = false := by simp [World.frozen?, KE3.out]
            gi_wp2
            have hno : elemOk l r.kind x = false := elemOk_no fun j hj => Hall.out j (by omega)
            refine ⟨((Keep.refl _ _ _).below HB.out).setCell (by show w.heap.size + 1 + 1 ≠ _; have := HSZ.out; omega) _, rfl, ⟨x, by rw [HEL.out]; simp, hno⟩, ?_, World.cell?_setCell_same _ _ _ ce⟩
            exact (((HFrm.out.grow HB.out).below HBW5.out (by have := HSZ.out; omega) (by have := HSZ.out; omega)).setCell (by show w.heap.size ≤ w.heap.size + 1 + 1; omega) _)
      case done =>
        rintro D W hD ⟨hfrm, hall⟩ hK
        have ke := heap_later KE5.out (hfrm.under (by have := HSZ.out; omega)) (by have := HSZ.out; omega)
        have ce : W.cell? ⟨w.heap.size + 1 + 1, 0, none⟩ = some (.bool false) := by rw [cell_of_row _ _ _ _ _ _ ke]; rfl
        have fe : W.frozen? ⟨w.heap.size + 1 + 1, 0, none⟩ = false := by simp [World.frozen?, ke]
        have HFrm := Lib.hid hfrm; have HK := Lib.hid hK; have HAll := Lib.hid hall
        clear hfrm hK hall ke
        go_wp2
        rw [Exit.noGoto_ret]
        refine bodyM_ret1 (v := .bool true) D ((Below.heap_setCell _ _ _ _ (by show D ≠ w.heap.size + 1 + 1; have := HSZ.out; omega)).trans HK.out) (results_cell1 rfl rfl (loadVar_one Tryz.underlying4 rfl ?_)) rfl ⟨?_, ?_⟩
        · rw [cell_putObj (by have := HSZ.out; omega)]; exact World.cell?_setCell_same _ _ _ ce
        · rw [Hposs.out, HEl.out]
          rw [show (List.range 12).all (elemOk l r.kind) = true by rw [List.all_eq_true]; intro e he; exact HAll.out e (by rw [elems_all]; exact he)]
        · exact below_putObj ((HFrm.out.below HBW5.out (by have := HSZ.out; omega) (by have := HSZ.out; omega)).setCell (p := ⟨w.heap.size + 1 + 1, 0, none⟩) (by show w.heap.size ≤ w.heap.size + 1 + 1; omega) _) (by have := HSZ.out; omega) _
      case stop =>
        rintro D c pre W hD ⟨rfl, hex, hbel, hcell⟩ hK
        have HK := Lib.hid hK; have HEx := Lib.hid hex; have HBel := Lib.hid hbel; have HCell := Lib.hid hcell
        clear hK hex hbel hcell
        gi_wp2
        rw [Exit.noGoto_ret]
        refine bodyM_ret1 (v := .bool false) D HK.out (results_cell1 rfl rfl (loadVar_one Tryz.underlying4 rfl ?_)) rfl ⟨?_, ?_⟩
        · rw [cell_putObj (by have := HSZ.out; omega)]; exact HCell.out
        · obtain ⟨e, he, h⟩ := HEx.out
          rw [Hposs.out, HEl.out]
          rw [show (List.range 12).all (elemOk l r.kind) = false by rw [Bool.eq_false_iff]; intro hc; rw [List.all_eq_true] at hc; rw [hc e (by rw [← elems_all]; exact he)] at h; cases h]
        · exact below_putObj HBel.out (by have := HSZ.out; omega) _
end Go.Proofs.YtilbbnjfaoldoaaGreatDoor

namespace Go.Proofs.YtilbbnjfaoldoaaGreatDoor
open Go Go.RowKit
attribute [local go_sem] cell_grow u64_sAnd u64_sOr u64_sDiff sDiff_all zeqI zneI sAnd_bit_zero sAnd_bit_zeroN sAnd_bit_nonzero Oper.semAt_some wide_fn wide_depth rowOf_grow rowOk_grow rowOf_alloc rowOk_alloc
open Go.Sort in
theorem rowQ {W : World} {b o : Nat} {bs : List Bnd} (h : rowOf W b o 16 = bCells bs ∧ rowOk W b o 16 = true) (hb : b < W.heap.size) :
    ∀ w', (∃ p : Regrown, w' = grow (redrawn W p.d) p.os) → rowOf w' b o 16 = bCells bs ∧ rowOk w' b o 16 = true := by
  rintro w' ⟨p, rfl⟩
  rw [rowOf_grow _ _ _ hb, rowOk_grow _ _ _ hb]; exact h
theorem wpQuiet_loadB {ops : Array Oper} {C : World → Prop} {Q : Act → Prop} {a : Act} {o : Oper} {rest : List Oper} (x : Operand) {b off : Nat} {bs : List Bnd} (hg : o.guard = none) (ho : o.op = .load 85 x) (hx : a.eval x = .pointer (some ⟨b, off, none⟩))
    (hC : ∀ w', C w' → rowOf w' b off 16 = bCells bs ∧ rowOk w' b off 16 = true) (h : wpQuiet Tryz.prog ops C Q rest (a.put o.dst (.agg (bCells bs).toArray))) : wpQuiet Tryz.prog ops C Q (o :: rest) a := by
  unfold wpQuiet
  rw [if_pos (by simp [Region.wanted, hg])]
  refine ⟨_, fun w hw => ?_, h⟩
  obtain ⟨h1, h2⟩ := hC w hw
  have := run_loadBounds w b off h2
  unfold Oper.quietAt execOp
  simp only [ho, hx, Sem.run_bind, this, Result.andThen_ok, Sem.run_pure, h1, Oper.quietUpon]
  exact ⟨trivial, trivial⟩
theorem Ints.slice {w : World} {B : Nat} {v : Value} {xs : List Int} (h : Ints w B v xs) : ∃ a c, v = .slice a xs.length c := by obtain ⟨_, a, cap, rfl, _⟩ := h; exact ⟨_, _, rfl⟩
set_option maxRecDepth 100000 in
set_option maxHeartbeats 1000000 in
theorem follows_any (b : List Bnd) (hb8 : b.length = 8) (hS : S12 b) (r : Rl) (hfit : RFit r) (vv : Value) (v e : Nat) (inn : Bool) (rule : Int) (ya : Option Addr) (yn yc : Nat) (hv8 : v < 8) (he : e < 12) (w : World) {B : Nat} (hv : Ints w B vv r.vars) (hB : B ≤ w.heap.size) (hT : Tab w) (hw0 : 0 < w.heap.size) :
    Gives Tryz.prog 99 #[.agg (bCells b).toArray, .agg #[.int .i64 r.kind, vv, .int .i64 r.low, .int .i64 r.high], .agg #[.int .i64 v, .int .i64 e, .bool inn, .int .i64 rule, .slice ya yn yc]] w (.bool (!possB (withB b v e (!inn)) r)) := by
  unfold Gives
  have HV := Lib.hid hv; have HT := Lib.hid hT; have HS := Lib.hid hS; have HF := Lib.hid hfit
  obtain ⟨va, vc, rfl⟩ := hv.slice
  clear hv hT hS hfit
  have hl16 : (bCells b).length = 16 := by rw [bCells_length, hb8]
  go_enter Tryz.func99, Tryz.ntmps99
  go_wp2_with fail
  refine abs_wp (fun W => rowOf W w.heap.size 0 16 = bCells b ∧ rowOk W w.heap.size 0 16 = true ∧ W.heap[w.heap.size + 1]? = some (.cells #[.int .i64 r.kind, .slice va r.vars.length vc, .int .i64 r.low, .int .i64 r.high] 62 (0, 0)) ∧ W.heap[w.heap.size + 2]? = some (.cells #[.int .i64 v, .int .i64 e, .bool inn, .int .i64 rule, .slice ya yn yc] 56 (0, 0)) ∧ Below w.heap.size w W ∧ w.heap.size + 3 = W.heap.size)
    ⟨(bblock_row hb8 (heap_new3 _ _ _ _).1).1, (bblock_row hb8 (heap_new3 _ _ _ _).1).2, (heap_new3 _ _ _ _).2.1, (heap_new3 _ _ _ _).2.2, Below.new3 _ _ _ _, by simp⟩ ?_
  rintro W ⟨r1, r2, k1, k2, hb, hs⟩
  have HR := Lib.hid (And.intro r1 r2); clear r1 r2
  have c0 : W.cell? ⟨w.heap.size + 1, 0, none⟩ = some (.int .i64 r.kind) := by rw [cell_of_row _ _ _ _ _ _ k1]; rfl
  have c1 : W.cell? ⟨w.heap.size + 1, 1, none⟩ = some (.slice va r.vars.length vc) := by rw [cell_of_row _ _ _ _ _ _ k1]; rfl
  have c2 : W.cell? ⟨w.heap.size + 1, 2, none⟩ = some (.int .i64 r.low) := by rw [cell_of_row _ _ _ _ _ _ k1]; rfl
  have c3 : W.cell? ⟨w.heap.size + 1, 3, none⟩ = some (.int .i64 r.high) := by rw [cell_of_row _ _ _ _ _ _ k1]; rfl
  have d0 : W.cell? ⟨w.heap.size + 1 + 1, 0, none⟩ = some (.int .i64 v) := by rw [cell_of_row _ _ _ _ _ _ k2]; rfl
  have d1 : W.cell? ⟨w.heap.size + 1 + 1, 1, none⟩ = some (.int .i64 e) := by rw [cell_of_row _ _ _ _ _ _ k2]; rfl
  have d2 : W.cell? ⟨w.heap.size + 1 + 1, 2, none⟩ = some (.bool inn) := by rw [cell_of_row _ _ _ _ _ _ k2]; rfl
  have z0 : w.heap.size < W.heap.size := by omega
  have z1 : w.heap.size + 1 < W.heap.size := by omega
  have z2 : w.heap.size + 1 + 1 < W.heap.size := by omega
  have HB := Lib.hid hb; have HZ := Lib.hid hs
  clear k1 k2 hb hs
  have hp : ∀ d os, Gives Tryz.prog 48 #[.agg (bCells (withB b v e (!inn))).toArray, .agg #[.int .i64 r.kind, .slice va r.vars.length vc, .int .i64 r.low, .int .i64 r.high]] (Go.Sort.grow (redrawn W d) os) (.bool (possB (withB b v e (!inn)) r)) := fun d os =>
    possible_any _ (by rw [withB_length, hb8]) (HS.out.with he _) r HF.out _ _ (HV.out.below (below_grow HB.out d os) hB) (Nat.le_trans hB (below_grow HB.out d os).size) (HT.out.below (below_grow HB.out d os) hw0) (Nat.lt_of_lt_of_le hw0 (below_grow HB.out d os).size)
  have HP := Lib.hid hp; clear hp
  refine wp_region_qb (by kernel_rfl) (by kernel_rfl) ?_
  refine wpQuiet_loadB _ rfl rfl rfl (rowQ HR.out z0) ?_
  simp only [Act.put, List.setIfInBounds_toArray, List.set_cons_zero, List.set_cons_succ]
  repeat go_big_quiet_step ((first | (with_reducible exact Gives.quiet (with_any b v e (!inn) _ hb8 hv8 (by omega) HS.out.u64)) | (with_reducible exact Gives.quiet (HP.out _ _))))
  refine wpQuiet_nil ?_
  intro w2 hb2
  go_wp2
  go_ret
  exact ⟨rfl, HB.out.trans (hb2.mono HB.out.size)⟩
end Go.Proofs.YtilbbnjfaoldoaaGreatDoor

namespace Go.Proofs.YtilbbnjfaoldoaaGreatDoor
open Go Go.RowKit
attribute [local go_sem] cell_grow u64_sAnd u64_sOr u64_sDiff sDiff_all zeqI zneI sAnd_bit_zero sAnd_bit_zeroN sAnd_bit_nonzero Oper.semAt_some wide_fn wide_depth rowOf_grow rowOk_grow rowOf_alloc rowOk_alloc

section
variable {P : Program} {w : World} {ops : Array Oper} {rest : List Oper} {o : Oper} {a : Act} {Q : Exit → Act → World → Prop}
/-- The built-in copy of n elements of sz cells each into a row of the call's own. -/
theorem run_copy_sz (w : World) (dT sT ty elem : TypeId) (sz : Nat) (g off dLen dCap : Nat) (a : Addr) (sLen sCap : Nat) (cur : Array Value) (t : TypeId) (cs : List Value)
    (hu : P.underlying dT = some (.slice elem)) (hs : (P.info? elem).map (·.size) = some sz)
    (hg : w.heap[g]? = some (.cells cur t (0, 0))) (hn : cs.length = Nat.min sLen dLen * sz)
    (hsrc : ∀ j v, cs[j]? = some v → w.cell? (a.add j) = some v) (hfit : off + cs.length ≤ cur.size) (h1 : ∀ v ∈ cs, v.oneCell' = true) :
    (Builtin.copy_ #[dT, sT] ty #[.slice (some ⟨g, off, none⟩) dLen dCap, .slice (some a) sLen sCap]).run P w =
      .ok (goInt (Nat.min sLen dLen)) (w.setRow g (cur.toList.take off ++ cs ++ cur.toList.drop (off + cs.length)).toArray) := by
  have hl := run_loadCells_list (P := P) w a cs hsrc
  have hst := run_storeCells_at P g off t cs 0 cur w hg (by simpa using hfit) h1
  cases hq : P.info? elem with
  | none => simp [hq] at hs
  | some i =>
    have hi : i.size = sz := by simpa [hq] using hs
    simp [Builtin.copy_, run_underlying hu, Builtin.lenOf, Builtin.firstCells, sizeOf, typeInfo, hq, hi, ← hn, hl, hst]
theorem wpList_copy_sz (hgd : o.guard = none) (d s : Operand) (dT sT : TypeId)
    (ho : o.op = .call { callee := .builtin .copy, args := #[d, s], argTypes := #[dT, sT] }) (elem : TypeId) (sz : Nat) (hu : P.underlying dT = some (.slice elem)) (hsz : (P.info? elem).map (·.size) = some sz)
    (g off dLen dCap : Nat) (ad : Addr) (sLen sCap : Nat) (hd : a.eval d = .slice (some ⟨g, off, none⟩) dLen dCap) (hs : a.eval s = .slice (some ad) sLen sCap)
    (cur : Array Value) (t : TypeId) (hg : w.heap[g]? = some (.cells cur t (0, 0))) (cs : List Value) (hn : cs.length = Nat.min sLen dLen * sz)
    (hsrc : ∀ j v, cs[j]? = some v → w.cell? (ad.add j) = some v) (hfit : off + cs.length ≤ cur.size) (h1 : ∀ v ∈ cs, v.oneCell' = true)
    (h : wpList P ops Q rest (a.put o.dst (goInt (Nat.min sLen dLen))) (w.setRow g (cur.toList.take off ++ (cs ++ cur.toList.drop (off + cs.length))).toArray)) : wpList P ops Q (o :: rest) a w := by
  refine wpList_plain hgd fun K hK => ?_
  have hrun := run_copy_sz (P := P) w dT sT o.type elem sz g off dLen dCap ad sLen sCap cur t cs hu hsz hg hn hsrc hfit h1
  unfold Oper.wp
  simp [execOp, ho, resolve, invoke, builtin, hd, hs, hrun, Result.andThen]
  exact hK _ _ h
end

def zeroB : List Bnd := List.replicate 8 ⟨0, 0⟩
def padB (l : List Bnd) : List Bnd := l ++ List.replicate (8 - l.length) ⟨0, 0⟩
theorem padB_length {l : List Bnd} (h : l.length ≤ 8) : (padB l).length = 8 := by simp [padB]; omega
theorem bget_pad (l : List Bnd) (k : Nat) : bget (padB l) k = bget l k := by
  unfold bget padB
  by_cases h : k < l.length
  · rw [List.getElem?_append_left h]
  · rw [List.getElem?_append_right (by omega), List.getElem?_eq_none (l := l) (by omega)]
    cases hx : (List.replicate (8 - l.length) (⟨0, 0⟩ : Bnd))[k - l.length]? with
    | none => rfl
    | some x => rw [(List.mem_replicate.1 (List.mem_of_getElem? hx)).2]; rfl
theorem S12.pad {l : List Bnd} (h : S12 l) : S12 (padB l) := fun x hx => by
  rcases List.mem_append.1 hx with h1 | h1
  · exact h x h1
  · rw [(List.mem_replicate.1 h1).2]; exact ⟨by decide, by decide⟩
theorem bcellAt_congr {l l' : List Bnd} (h : ∀ k, bget l k = bget l' k) (i : Nat) : bcellAt l i = bcellAt l' i := by unfold bcellAt; rw [h]
theorem bCells_pad {l : List Bnd} (h : l.length ≤ 8) : bCells (padB l) = bCells l ++ (bCells zeroB).drop (l.length * 2) := by
  apply List.ext_getElem?
  intro i
  have hz : (bCells zeroB).length = 16 := by rw [bCells_length]; rfl
  by_cases hi : i < 16
  · rw [bCells_get _ _ (by rw [padB_length h]; exact hi), bcellAt_congr (bget_pad l)]
    by_cases h2 : i < l.length * 2
    · rw [List.getElem?_append_left (by rw [bCells_length]; exact h2), bCells_get _ _ h2]
    · rw [List.getElem?_append_right (by rw [bCells_length]; omega), bCells_length, List.getElem?_drop, show l.length * 2 + (i - l.length * 2) = i by omega, bCells_get _ _ (by show i < 16; exact hi)]
      have e1 : bget l (i / 2) = ⟨0, 0⟩ := by unfold bget; rw [List.getElem?_eq_none (by omega)]; rfl
      have e2 : bget zeroB (i / 2) = ⟨0, 0⟩ := by
        unfold bget zeroB
        rw [List.getElem?_replicate, if_pos (by omega)]; rfl
      unfold bcellAt; rw [e1, e2]
  · rw [List.getElem?_eq_none (by rw [bCells_length, padB_length h]; omega), List.getElem?_eq_none (by rw [List.length_append, List.length_drop, hz, bCells_length]; omega)]

/-- A block of bounds read whole, and laid into another. -/
theorem copy_end (b' : List Bnd) (hb8 : b'.length = 8) (w W : World) (gs gd : Nat) (hbl : W.heap[gs]? = some (.cells (bCells b').toArray 85 (0, 0)))
    (hz : ∃ z : Array Value, z.size = 16 ∧ W.heap[gd]? = some (.cells z 85 (0, 0))) (hb : Below w.heap.size w W) (hgd : w.heap.size ≤ gd) :
    W.rangeAt gs 0 (bCells b') ∧ W.there gd 0 (bCells b').toArray.size ∧ (Tryz.prog.info? 85).map (·.size) = some (bCells b').length ∧
    (loadVar 85 ⟨gd, 0, none⟩).run Tryz.prog (W.setCells gd 0 (bCells b')) = .ok (.agg (bCells b').toArray) (W.setCells gd 0 (bCells b')) ∧
    Below w.heap.size w (W.setCells gd 0 (bCells b')) := by
  obtain ⟨z, hz1, hz2⟩ := hz
  have hl : (bCells b').length = 16 := by rw [bCells_length, hb8]
  have hi : (Tryz.prog.info? 85).map (·.size) = some (bCells b').length := by rw [hl]; kernel_rfl
  have ht : W.there gd 0 (bCells b').length := fresh_there hz2 (by rw [hz1, hl])
  exact ⟨bblock_range hbl, by simpa using ht, hi, run_loadVar_mid _ _ 0 _ _ _ (World.rangeAt_setCells_same W _ 0 _ ht) Tryz.underlying85 rfl hi, below_setCells hgd _ _ _ hb⟩
set_option maxRecDepth 100000 in
set_option maxHeartbeats 1000000 in
theorem boundsOf_any (p : Prob) (bv rv : Value) (w : World) {B : Nat} (hbv : Bnds w B bv p.bounds) (hrs : ∃ a n c, rv = .slice a n c) (hB : B ≤ w.heap.size) (h1 : 1 ≤ p.bounds.length) (h8 : p.bounds.length ≤ 8) :
    Gives Tryz.prog 50 #[.agg #[bv, rv]] w (.agg (bCells (padB p.bounds)).toArray) := by
  unfold Gives
  obtain ⟨_, ba, bc, rfl, _, _, hbr⟩ := hbv.mono hB
  obtain ⟨ra, rn, rc, rfl⟩ := hrs
  obtain ⟨b, off, rfl, hbs, hcell⟩ := hbr (by omega)
  have HC := Lib.hid hcell
  clear hbr hcell hbv
  go_enter Tryz.func50, Tryz.ntmps50
  go_wp2_with fail
  refine abs_wp (fun W => W.heap[w.heap.size]? = some (.cells #[.slice (some ⟨b, off, none⟩) p.bounds.length bc, .slice ra rn rc] 25 (0, 0)) ∧ (∃ z : Array Value, z.size = 16 ∧ W.heap[w.heap.size + 1]? = some (.cells z 85 (0, 0))) ∧
    W.heap[w.heap.size + 2]? = some (.cells (bCells zeroB).toArray 85 (0, 0)) ∧ Below w.heap.size w W ∧ w.heap.size + 3 = W.heap.size) ⟨(heap_new3 _ _ _ _).1, ⟨_, rfl, (heap_new3 _ _ _ _).2.1⟩, (heap_new3 _ _ _ _).2.2, Below.new3 _ _ _ _, by simp⟩ ?_
  rintro W ⟨k0, hz, k2, hb, hs⟩
  have c0 : W.cell? ⟨w.heap.size, 0, none⟩ = some (.slice (some ⟨b, off, none⟩) p.bounds.length bc) := by rw [cell_of_row _ _ _ _ _ _ k0]; rfl
  have z0 : w.heap.size < W.heap.size := by omega
  have HZ := Lib.hid hz; have HK2 := Lib.hid k2; have HB := Lib.hid hb; have HS := Lib.hid hs
  clear k0 hz k2 hb hs
  refine wp_region_qbt 3 (by kernel_rfl) (by kernel_rfl) ?_
  simp only [List.take_succ_cons, List.take_zero, List.drop_succ_cons, List.drop_zero]
  repeat go_big_quiet_step (fail)
  refine wpQuiet_nil ?_
  intro w2 hb2
  have hbw2 := HB.out.trans (hb2.mono HB.out.size)
  have k22 := heap_later HK2.out hb2 (by have := HS.out; omega)
  have hmin : Nat.min p.bounds.length 8 = p.bounds.length := Nat.min_eq_left h8
  have hsrc : ∀ j v, (bCells p.bounds)[j]? = some v → w2.cell? ((⟨b, off, none⟩ : Addr).add j) = some v := by
    intro j v hv
    have hj : j < p.bounds.length * 2 := by have := (List.getElem?_eq_some_iff.1 hv).1; rwa [bCells_length] at this
    rw [Addr.add_mid, (hbw2.cell (p := ⟨b, off + j, none⟩) hbs), HC.out j hj, ← bCells_get _ _ hj, hv]
  have hfit : 0 + (bCells p.bounds).length ≤ (bCells zeroB).toArray.size := by
    rw [List.size_toArray, bCells_length, bCells_length]; show 0 + p.bounds.length * 2 ≤ 16; omega
  have h2 : (Tryz.prog.info? 47).map (·.size) = some 2 := by kernel_rfl
  refine wpList_copy_sz rfl _ _ _ _ rfl 47 2 Tryz.underlying22 h2 (w.heap.size + 1 + 1) 0 8 8 ⟨b, off, none⟩ p.bounds.length bc rfl rfl _ _ k22 (bCells p.bounds) (by rw [bCells_length, hmin]) hsrc hfit (bCells_one _) ?_
  have E0 : w2.setRow (w.heap.size + 1 + 1) ((bCells zeroB).toArray.toList.take 0 ++ (bCells p.bounds ++ (bCells zeroB).toArray.toList.drop (0 + (bCells p.bounds).length))).toArray = w2.setRow (w.heap.size + 1 + 1) (bCells (padB p.bounds)).toArray := by
    rw [bCells_pad h8, bCells_length]; simp
  rw [E0]
  have k3 := setRow_heap w2 _ _ (bCells (padB p.bounds)).toArray _ _ k22
  obtain ⟨z, hz1, hz2⟩ := HZ.out
  have hz3 : (w2.setRow (w.heap.size + 1 + 1) (bCells (padB p.bounds)).toArray).heap[w.heap.size + 1]? = some (.cells z 85 (0, 0)) :=
    (setRow_other w2 _ _ _ (by omega)).trans (heap_later hz2 hb2 (by have := HS.out; omega))
  have E := copy_end (padB p.bounds) (padB_length h8) w _ _ (w.heap.size + 1) k3 ⟨z, hz1, hz3⟩ (below_setRow hbw2 (by omega) _) (by omega)
  have E' := Lib.hid E
  obtain ⟨W3, hW3⟩ : ∃ W3, W3 = w2.setRow (w.heap.size + 1 + 1) (bCells (padB p.bounds)).toArray := ⟨_, rfl⟩
  rw [← hW3] at E' ⊢
  clear E0 k3 hz3 E hW3 hsrc hfit h2 k22 hbw2 hb2 c0 hmin
  go_wp2_with (first | (refine wpList_load_mid rfl 85 _ rfl _ _ rfl _ _ E'.out.1 Tryz.underlying85 rfl E'.out.2.2.1 ?_) | (refine wpList_store_mid rfl 85 _ _ rfl _ _ _ rfl rfl E'.out.2.1 (by simpa using E'.out.2.2.1) (all_oneCell_toArray (bCells_one _)) ?_))
  exact bodyPost_ret (results_cell1 rfl rfl (by simpa using E'.out.2.2.2.1)) rfl ⟨rfl, by simpa using E'.out.2.2.2.2⟩
end Go.Proofs.YtilbbnjfaoldoaaGreatDoor

namespace Go.Proofs.YtilbbnjfaoldoaaGreatDoor
open Go Go.RowKit
attribute [local go_sem] cell_grow u64_sAnd u64_sOr u64_sDiff sDiff_all zeqI zneI sAnd_bit_zero sAnd_bit_zeroN sAnd_bit_nonzero Oper.semAt_some wide_fn wide_depth rowOf_grow rowOk_grow rowOf_alloc rowOk_alloc

def nget (xs : List Nat) (i : Nat) : Nat := xs[i]?.getD 0
/-- A slice of sets. -/
def Us (w : World) (B : Nat) (v : Value) (xs : List Nat) : Prop := Row w B 1 v xs.length (fun i => .int .u64 (nget xs i : Nat))
theorem Us.below {w w' : World} {B : Nat} {v : Value} {xs : List Nat} (h : Us w B v xs) {B' : Nat} (hb : Below B' w w') (hB : B ≤ B') : Us w' B v xs := Row.below h hb hB
theorem Us.mono {w : World} {B : Nat} {v : Value} {xs : List Nat} (h : Us w B v xs) {B' : Nat} (hB : B ≤ B') : Us w B' v xs := Row.mono h hB
theorem sDiff_small {s : Nat} (h : sDiff s 4095 = 0) : s < 4096 := by
  have e : s = s &&& 4095 := by
    apply Nat.eq_of_testBit_eq
    intro i
    have := congrArg (fun x => Nat.testBit x i) h
    simp only [sDiff_testBit, Nat.zero_testBit] at this
    rw [Nat.testBit_and]
    cases hs : s.testBit i
    · rfl
    · rw [hs] at this; simpa using this
  have : s &&& 4095 ≤ 4095 := Nat.and_le_right
  omega
def over (s : Nat) : Bool := !(sDiff s 4095 == 0)
set_option maxHeartbeats 400000 in
theorem holds1_any (s : Nat) (hs : U64 s) (w : World) : Calls Tryz.prog 45 #[.int .u64 (s : Nat)] w fun e w' => e = .returned (.bool (over s)) ∧ w' = w := by
  go_enter Tryz.func45, Tryz.ntmps45
  go_wp2
  go_ret
  exact ⟨rfl, rfl⟩
set_option maxRecDepth 100000 in
set_option maxHeartbeats 800000 in
theorem holds2_any (b : List Bnd) (hb8 : b.length = 8) (hS : S12 b) (r : Rl) (hfit : RFit r) (vv : Value) (bp : Nat) (w : World) {B : Nat} (hv : Ints w B vv r.vars) (hB : B ≤ w.heap.size) (hT : Tab w) (hbp : w.heap[bp]? = some (.cells (bCells b).toArray 85 (0, 0))) :
    Gives Tryz.prog 47 #[.agg #[.int .i64 r.kind, vv, .int .i64 r.low, .int .i64 r.high], .pointer (some ⟨bp, 0, none⟩)] w (.bool (!possB b r)) := by
  unfold Gives
  have hlt : bp < w.heap.size := (Array.getElem?_eq_some_iff.1 hbp).1
  have HV := Lib.hid hv; have HT := Lib.hid hT
  obtain ⟨va, vc, rfl⟩ := hv.slice
  have hrg := bblock_range (heap_later hbp (Below.new1 w (.cells #[.int .i64 r.kind, .slice va r.vars.length vc, .int .i64 r.low, .int .i64 r.high] 62)) hlt)
  have hi16 : (Tryz.prog.info? 85).map (·.size) = some 16 := by kernel_rfl
  have HI := Lib.hid (show (Tryz.prog.info? 85).map (·.size) = some (bCells b).length by rw [bCells_length, hb8]; exact hi16)
  have HRG := Lib.hid hrg
  clear hv hT hbp hrg hi16
  go_enter Tryz.func47, Tryz.ntmps47
  go_wp2_with (refine wpList_load_mid rfl 85 _ rfl _ _ rfl _ _ HRG.out Tryz.underlying85 rfl HI.out ?_)
  refine (possible_any b hb8 hS r hfit _ _ (HV.out.below (Below.new1 _ _) hB) (by simp; omega) (HT.out.below (Below.new1 _ _) (by omega)) (by simp)).mono ?_
  rintro e w2 ⟨rfl, hb2⟩
  go_wp2
  go_ret
  exact ⟨rfl, (Below.new1 _ _).trans (hb2.mono (by simp))⟩
theorem over_any (l : List Nat) : ((List.range l.length).any fun k => over (nget l k)) = l.any over := by
  rw [Bool.eq_iff_iff]
  simp only [List.any_eq_true, List.mem_range]
  constructor
  · rintro ⟨k, hk, h⟩; exact ⟨l[k], List.getElem_mem hk, by rwa [show l[k] = nget l k by simp [nget, hk]]⟩
  · rintro ⟨x, hx, h⟩
    obtain ⟨k, hk, rfl⟩ := List.mem_iff_getElem.1 hx
    exact ⟨k, hk, by rwa [show nget l k = l[k] by simp [nget, hk]]⟩
set_option maxHeartbeats 800000 in
/-- The bound of each element is asked for every element of the slice. -/
theorem has_over (l : List Nat) (v : Value) (w : World) {B : Nat} (hr : Us w B v l) (hB : B ≤ w.heap.size) (hu : ∀ s ∈ l, U64 s) : Gives Tryz.prog 44 #[v, .func (.func 45) #[] #[]] w (.bool (l.any over)) := by
  refine (hasU _ _ _ 45 #[] (fun k => over (nget l k)) _ hr hB (enters_of Tryz.func45 (by kernel_rfl) rfl) ?_).to (by rw [over_any])
  intro k hk w' _
  exact Gives.of_same (holds1_any _ (by rw [show nget l k = l[k] by simp [nget, hk]]; exact hu _ (List.getElem_mem hk)) w')
def setB (s : Nat) : Bnd := ⟨s, s⟩
def setsB (l : List Nat) : List Bnd := padB (l.map setB)
def holdsOk (p : Prob) (l : List Nat) : Bool := probOk p && ((l.length : Int) == (p.bounds.length : Int)) && !l.any over
def holdsN (p : Prob) (l : List Nat) : Int := if idxOf (fun i => !possB (setsB l) (rget p.rules i)) p.rules.length < 0 then p.rules.length else idxOf (fun i => !possB (setsB l) (rget p.rules i)) p.rules.length
theorem setsB_snoc (l : List Nat) (k : Nat) (hk : k < l.length) (h8 : l.length ≤ 8) : setsB (l.take (k + 1)) = ((setsB (l.take k)).set k ⟨nget l k, (bget (setsB (l.take k)) k).can⟩).set k ⟨(bget ((setsB (l.take k)).set k ⟨nget l k, (bget (setsB (l.take k)) k).can⟩) k).inn, nget l k⟩ := by
  have hlen : ∀ j, j ≤ 8 → (setsB (l.take j)).length = 8 := fun j hj => padB_length (by simp; omega)
  apply List.ext_getElem?
  intro i
  by_cases hi : i < 8
  · have e : ∀ (x : List Bnd), x.length = 8 → x[i]? = some (bget x i) := fun x hx => by unfold bget; rw [List.getElem?_eq_getElem (by omega)]; rfl
    rw [e _ (hlen _ (by omega)), e _ (by simp [hlen k (by omega)]), bget_set _ _ _ _ (by simp [hlen k (by omega)]; omega), bget_set _ _ _ _ (by rw [hlen k (by omega)]; omega), bget_set _ _ _ _ (by rw [hlen k (by omega)]; omega), if_pos rfl]
    unfold setsB
    simp only [bget_pad]
    unfold bget
    by_cases hik : i = k
    · subst hik; simp [hk, setB, nget]
    · rw [if_neg hik, if_neg hik]
      simp only [List.map_take, List.getElem?_take]
      by_cases h2 : i < k
      · rw [if_pos (by omega), if_pos h2]
      · rw [if_neg (by omega), if_neg h2]
  · rw [List.getElem?_eq_none (by rw [hlen _ (by omega)]; omega), List.getElem?_eq_none (by simp [hlen k (by omega)]; omega)]
theorem setsB_length (l : List Nat) (k : Nat) (h8 : l.length ≤ 8) : (setsB (l.take k)).length = 8 := padB_length (by simp; omega)
theorem setsB_s12 {l : List Nat} (h : l.any over = false) (_hu : ∀ s ∈ l, U64 s) : S12 (setsB l) := by
  refine S12.pad fun x hx => ?_
  obtain ⟨s, hs, rfl⟩ := List.mem_map.1 hx
  have h1 : over s = false := by
    cases h2 : over s
    · rfl
    · rw [List.any_eq_true.2 ⟨s, hs, h2⟩] at h; cases h
  have h3 : sDiff s 4095 = 0 := by simpa [over] using h1
  have h4 : s < 4096 := sDiff_small h3
  exact ⟨h4, h4⟩
end Go.Proofs.YtilbbnjfaoldoaaGreatDoor

namespace Go.Proofs.YtilbbnjfaoldoaaGreatDoor
open Go Go.RowKit
attribute [local go_sem] cell_grow u64_sAnd u64_sOr u64_sDiff sDiff_all zeqI zneI sAnd_bit_zero sAnd_bit_zeroN sAnd_bit_nonzero Oper.semAt_some wide_fn wide_depth rowOf_grow rowOk_grow rowOf_alloc rowOk_alloc

theorem probOk_fit {p : Prob} (h : probOk p = true) : 1 ≤ p.bounds.length ∧ p.bounds.length ≤ 8 ∧ p.rules.length ≤ 12 ∧ (∀ i, i < p.rules.length → RFit (rget p.rules i)) ∧ S12 p.bounds := by
  simp only [probOk, Bool.and_eq_true, decide_eq_true_eq, List.all_eq_true, inB] at h
  obtain ⟨⟨⟨⟨h1, h2⟩, h3⟩, h4⟩, h5⟩ := h
  refine ⟨by omega, by omega, h3, fun i hi => ?_, fun x hx => ?_⟩
  · have := h5 p.rules[i] (List.getElem_mem hi)
    rw [show p.rules[i] = rget p.rules i by simp [rget, hi]] at this
    exact RFit.of_ok this (by omega)
  · have := h4 x hx
    simp only [bndOk, Bool.and_eq_true, beq_iff_eq] at this
    have hc := sDiff_small this.1
    refine ⟨?_, hc⟩
    have e : x.inn = x.inn &&& x.can := by
      apply Nat.eq_of_testBit_eq
      intro i
      have := congrArg (fun y => Nat.testBit y i) this.2
      simp only [sDiff_testBit, Nat.zero_testBit] at this
      rw [Nat.testBit_and]
      cases hs : x.inn.testBit i
      · rfl
      · rw [hs] at this; simpa using this
    have : x.inn &&& x.can ≤ x.can := Nat.and_le_right
    omega
theorem Rls.slice {w : World} {B : Nat} {v : Value} {rs : List Rl} (h : Rls w B v rs) : ∃ a c, v = .slice a rs.length c := by obtain ⟨c, ⟨_, a, cap, rfl, _⟩, _⟩ := h; exact ⟨_, _, rfl⟩
theorem Bnds.slice {w : World} {B : Nat} {v : Value} {xs : List Bnd} (h : Bnds w B v xs) : ∃ a c, v = .slice a xs.length c := by obtain ⟨_, a, cap, rfl, _⟩ := h; exact ⟨_, _, rfl⟩
theorem Us.slice {w : World} {B : Nat} {v : Value} {xs : List Nat} (h : Us w B v xs) : ∃ a c, v = .slice a xs.length c := by obtain ⟨_, a, cap, rfl, _⟩ := h; exact ⟨_, _, rfl⟩
def holdsR (p : Prob) (l : List Nat) : Int := if holdsOk p l then holdsN p l else 0
theorem errOf_ne (b : Bool) : (errOf b != 0) = !b := by cases b <;> rfl
set_option maxRecDepth 100000 in
set_option maxHeartbeats 1000000 in
theorem holds_any (p : Prob) (l : List Nat) (bv rv lv : Value) (w : World) {B : Nat} (hbv : Bnds w B bv p.bounds) (hrv : Rls w B rv p.rules) (hlv : Us w B lv l) (hB : B ≤ w.heap.size) (hub : U64s p.bounds) (hul : ∀ s ∈ l, U64 s) (hT : Tab w) (hw0 : 0 < w.heap.size) :
    Gives Tryz.prog 18 #[.agg #[bv, rv], lv] w (.tuple #[.int .i64 (holdsR p l), .int .i64 (errOf (holdsOk p l))]) := by
  unfold Gives
  have HBV := Lib.hid hbv; have HRV := Lib.hid hrv; have HLV := Lib.hid hlv; have HT := Lib.hid hT; have HUB := Lib.hid hub; have HUL := Lib.hid hul
  obtain ⟨ba, bc, rfl⟩ := hbv.slice
  obtain ⟨ra, rc, rfl⟩ := hrv.slice
  obtain ⟨la, lc, rfl⟩ := hlv.slice
  clear hbv hrv hlv hT hub hul
  go_enter Tryz.func18, Tryz.ntmps18
  go_wp2_with fail
  refine (check_any p _ _ _ (HBV.out.below (Below.new1 _ _) hB) (HRV.out.below (Below.new1 _ _) hB) (by simp; omega) HUB.out).mono ?_
  rintro e w1 ⟨rfl, hb1⟩
  have hs1 : w.heap.size + 1 ≤ w1.heap.size := by have := hb1.size; simpa using this
  have k1 := heap_later (heap_new0 w (.cells #[.slice ba p.bounds.length bc, .slice ra p.rules.length rc] 25)) hb1 (by simp)
  have hbw1 : Below w.heap.size w w1 := (Below.new1 _ _).trans (hb1.mono (by simp))
  have c0 : w1.cell? ⟨w.heap.size, 0, none⟩ = some (.slice ba p.bounds.length bc) := by rw [cell_of_row _ _ _ _ _ _ k1]; rfl
  have c1 : w1.cell? ⟨w.heap.size, 1, none⟩ = some (.slice ra p.rules.length rc) := by rw [cell_of_row _ _ _ _ _ _ k1]; rfl
  have HB1 := Lib.hid hbw1; have HS1 := Lib.hid hs1; have K1 := Lib.hid k1
  clear hb1 hs1 k1 hbw1
  have hen := errOf_ne (probOk p)
  cases hpo : probOk p
  case false =>
    rw [hpo] at hen
    go_wp2
    go_ret2
    exact ⟨by rw [holdsR, show holdsOk p l = false by simp [holdsOk, hpo]]; rfl, HB1.out⟩
  case true =>
    rw [hpo] at hen
    cases hle : ((l.length : Int) == (p.bounds.length : Int))
    case false =>
      have hle2 : ((l.length : Int) != (p.bounds.length : Int)) = true := by simp [bne, hle]
      go_wp2
      go_ret2
      exact ⟨by rw [holdsR, show holdsOk p l = false by simp [holdsOk, hle]]; rfl, HB1.out⟩
    case true =>
      have hle2 : ((l.length : Int) != (p.bounds.length : Int)) = false := by simp [bne, hle]
      go_wp2_with fail
      refine (has_over l _ _ (HLV.out.below HB1.out hB) (Nat.le_trans hB HB1.out.size) HUL.out).mono ?_
      rintro e w2 ⟨rfl, hb2⟩
      have hbw2 := HB1.out.trans (hb2.mono HB1.out.size)
      cases hov : l.any over
      case true =>
        go_wp2
        go_ret2
        exact ⟨by rw [holdsR, show holdsOk p l = false by simp [holdsOk, hov]]; rfl, hbw2⟩
      case false =>
        have hok : holdsOk p l = true := by simp [holdsOk, hpo, hle, hov]
        have hfit := probOk_fit hpo
        have hl8 : l.length ≤ 8 := by have := hfit.2.1; simp at hle; omega
        have hs2 : w.heap.size + 1 ≤ w2.heap.size := by have := HS1.out; have := hb2.size; omega
        have k2 := heap_later K1.out hb2 (by have := HS1.out; omega)
        have HBW2 := Lib.hid hbw2; have HS2 := Lib.hid hs2; have K2 := Lib.hid k2; have HOK := Lib.hid hok; have HFIT := Lib.hid hfit; have HOV := Lib.hid hov
        clear hbw2 hs2 k2 hok hfit hov hb2 c0 c1 hle hle2 hen hpo
        go_wp2
        refine abs_wp (fun W => W.heap[w2.heap.size]? = some (.cells (bCells zeroB).toArray 85 (0, 0)) ∧ Below w2.heap.size w2 W ∧ w2.heap.size + 1 = W.heap.size) ⟨heap_new0 _ _, Below.new1 _ _, by simp⟩ ?_
        rintro W ⟨k0, hb, hs⟩
        rw [show zeroB = setsB (l.take 0) by simp [setsB, padB, zeroB]] at k0
        have HK0 := Lib.hid k0; have HB := Lib.hid hb; have HS := Lib.hid hs
        clear k0 hb hs
        go_loopw [27] (fun i wr => ∃ k : Nat, k ≤ l.length ∧ i = .int .i64 k ∧ wr.heap[w2.heap.size]? = some (.cells (bCells (setsB (l.take k))).toArray 85 (0, 0)) ∧ Below w2.heap.size w2 wr ∧ W.heap.size ≤ wr.heap.size) (fun i _ => l.length - (intOf i).toNat)
        case atStart => exact ⟨0, Nat.zero_le _, rfl, HK0.out, HB.out, Nat.le_refl _⟩
        case round =>
          obtain ⟨k, hk, rfl, hown, hb, hsz⟩ := hrel
          have hbw := HBW2.out.trans (hb.mono HBW2.out.size)
          have hlen := setsB_length l k hl8
          have HN := Lib.hid hown; have HB3 := Lib.hid hb; have HBW := Lib.hid hbw; have HSZ := Lib.hid hsz
          clear hb hbw hsz
          by_cases hlt : k < l.length
          · obtain ⟨_, a', cap', hae, _, _, hrow⟩ := HLV.out
            cases hae
            obtain ⟨bb, off, rfl, hbs, hcell⟩ := hrow (by omega)
            have c0 : wr.cell? ⟨bb, off + k, none⟩ = some (.int .u64 ((nget l k : Nat) : Int)) := rowCell hcell HBW.out (by omega) k (by omega) rfl rfl
            have c1 : wr.cell? ⟨w2.heap.size, k * 2, none⟩ = some (.int .u64 ((bget (setsB (l.take k)) k).inn : Nat)) := by rw [← bcellAt_inn]; exact (bblock hown).1 _ (by omega)
            have c2 : wr.cell? ⟨w2.heap.size, k * 2 + 1, none⟩ = some (.int .u64 ((bget (setsB (l.take k)) k).can : Nat)) := by rw [← bcellAt_can]; exact (bblock hown).1 _ (by omega)
            have f1 := (bblock hown).2 (k * 2)
            have f2 := (bblock hown).2 (k * 2 + 1)
            clear hcell hrow hown
            go_wp2
            go_roundw
            case rel =>
              refine ⟨k + 1, by omega, by go_num, ?_, (HB3.out.setCell (Nat.le_refl _) _).setCell (Nat.le_refl _) _, by simpa using HSZ.out⟩
              rw [setsB_snoc l k hlt hl8]
              exact (bblock_set (bblock_set HN.out k _ (by omega)).1 k _ (by simp [hlen]; omega)).2
            case measure => simp [intOf]; omega
          · have hk2 : k = l.length := by omega
            subst hk2
            rw [List.take_length] at hown
            have k2 := heap_later K2.out HB3.out (by have := HS2.out; omega)
            have c1 : wr.cell? ⟨w.heap.size, 1, none⟩ = some (.slice ra p.rules.length rc) := by rw [cell_of_row _ _ _ _ _ _ k2]; rfl
            have HOW := Lib.hid hown; have HS3 := Lib.hid (show w2.heap.size < wr.heap.size by have := HS.out; have := HSZ.out; omega)
            have hS12 : S12 (setsB l) := setsB_s12 HOV.out HUL.out
            have hS8 : (setsB l).length = 8 := by have := setsB_length l l.length hl8; rwa [List.take_length] at this
            clear hown hlen HN k2
            go_wp2_with fail
            obtain ⟨c, hrow, hc⟩ := HRV.out.below HBW.out hB
            refine (idxR _ _ c 47 #[.pointer (some ⟨w2.heap.size, 0, none⟩)] (fun i => !possB (setsB l) (rget p.rules i)) _ hrow (by have := HBW.out.size; omega) (enters_of Tryz.func47 (by kernel_rfl) rfl) ?_).mono ?_
            · intro i hi w' hb'
              obtain ⟨e1, e2, e3, e4⟩ := hc i hi
              rw [e1, e3, e4]
              have hbb := HBW.out.trans (hb'.mono HBW.out.size)
              exact holds2_any _ hS8 hS12 _ (HFIT.out.2.2.2.1 i hi) _ _ _ (e2.below hb' (by have := HBW.out.size; omega)) (by have := hbb.size; omega) (HT.out.below hbb hw0) (heap_later HOW.out hb' HS3.out)
            · rintro e w4 ⟨rfl, hb4⟩
              have k4 := heap_later K2.out (HB3.out.trans (hb4.mono HB3.out.size)) (by have := HS2.out; omega)
              have c4 : w4.cell? ⟨w.heap.size, 1, none⟩ = some (.slice ra p.rules.length rc) := by rw [cell_of_row _ _ _ _ _ _ k4]; rfl
              have hfin := HBW.out.trans (hb4.mono HBW.out.size)
              clear hrow hc k4 hb4
              have hR : holdsR p l = holdsN p l := by rw [holdsR, HOK.out]; rfl
              unfold holdsN at hR
              generalize idxOf (fun i => !possB (setsB l) (rget p.rules i)) p.rules.length = j at hR ⊢
              have hE : errOf (holdsOk p l) = 0 := by rw [HOK.out]; rfl
              by_cases hj : j < 0
              · rw [if_pos hj] at hR
                go_wp2
                go_ret2
                exact ⟨by rw [hE, hR]; rfl, hfin⟩
              · rw [if_neg hj] at hR
                go_wp2
                go_ret2
                exact ⟨by rw [hE, hR]; rfl, hfin⟩
end Go.Proofs.YtilbbnjfaoldoaaGreatDoor

namespace Go.Proofs.YtilbbnjfaoldoaaGreatDoor
open Go Go.RowKit
attribute [local go_sem] cell_grow u64_sAnd u64_sOr u64_sDiff sDiff_all zeqI zneI sAnd_bit_zero sAnd_bit_zeroN sAnd_bit_nonzero Oper.semAt_some wide_fn wide_depth rowOf_grow rowOk_grow rowOf_alloc rowOk_alloc

def aboutB (p : Prob) (f : Fact) : Bool := inB f.rule 0 (p.rules.length - 1) && ihas (rget p.rules f.rule.toNat).vars f.var && inB f.elem 0 11
theorem inB_nat {n h : Int} (hb : inB n 0 h = true) : ∃ k : Nat, n = k ∧ (k : Int) ≤ h := by
  simp only [inB, Bool.and_eq_true, decide_eq_true_eq] at hb
  exact ⟨n.toNat, by omega, by omega⟩
/-- Where a rule lies in a slice of rules. -/
theorem Rls.cells {w : World} {B : Nat} {a : Option Addr} {n cap : Nat} {rs : List Rl} (h : Rls w B (.slice a n cap) rs) {j : Nat} (hj : j < rs.length) :
    ∃ b off vv, a = some ⟨b, off, none⟩ ∧ b < B ∧ Ints w B vv (rget rs j).vars ∧ w.cell? ⟨b, off + j * 4, none⟩ = some (.int .i64 (rget rs j).kind) ∧ w.cell? ⟨b, off + j * 4 + 1, none⟩ = some vv ∧
      w.cell? ⟨b, off + j * 4 + 2, none⟩ = some (.int .i64 (rget rs j).low) ∧ w.cell? ⟨b, off + j * 4 + 3, none⟩ = some (.int .i64 (rget rs j).high) := by
  obtain ⟨c, ⟨_, a', cap', hv, _, _, hr⟩, hc⟩ := h
  cases hv
  obtain ⟨b, off, rfl, hbs, hcell⟩ := hr (by omega)
  obtain ⟨e1, e2, e3, e4⟩ := hc j hj
  exact ⟨b, off, _, rfl, hbs, e2, by rw [← e1]; exact hcell (j * 4) (by omega), hcell (j * 4 + 1) (by omega), by rw [← e3]; exact hcell (j * 4 + 2) (by omega), by rw [← e4]; exact hcell (j * 4 + 3) (by omega)⟩
theorem Rls.len {w : World} {B : Nat} {v : Value} {rs : List Rl} (h : Rls w B v rs) : rs.length ≤ 140737488355328 := by obtain ⟨c, ⟨h, _⟩, _⟩ := h; exact h
end Go.Proofs.YtilbbnjfaoldoaaGreatDoor
