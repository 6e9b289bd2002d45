/- Memory predicates and small laws that all walks of this seat use. No program in sight. · A region that draws its order: operations that are quiet in a class of worlds, and behind them all a forced tail that may write. After the library's wp_region_still_tail (one world) and wp_region_quiet (a class, no tail). · A region in the body of a loop over a function: where none of its operations defers, it goes as anywhere. · What the functions of package sets compute, in plain Lean: sets as numbers, bounds as lists. No program in sight. · The functions of package slices that are walked here, by their contracts. · 'for e := range elements(s)': the iterator of package sets, and the loop over it. · math/bits.OnesCount64 at small numbers. · Package sets: small functions, rules, Check. · Package sets: Check. · Package sets: what rules ask of an element, clash. · Package sets: bounds as arrays: with, of. · Package sets: of. -/
import Derived.WalkKit
import Derived.WalkSpells
import Derived.WalkLawsBesides
import Derived.Lib.Hide
import Derived.Lib.QuietBelow
import Derived.BigQuiet
import Derived.Shelf.Abstract
import Derived.Shelf.Spec.TrailingZeros
import Derived.RangeFuncNested
import Derived.RangeFuncBound
import Derived.RangeFuncCalls
import Derived.RangeFuncLeaves
import Derived.OwnWalkIn
import Derived.TacticsInMore
import Derived.LoopNIn
import Derived.LoopIn
import Derived.Deep.MidRow
import Derived.Laws.EntriesVeiled
import Derived.Deep.WholeRow
import Derived.Recover
import Derived.RegionTactic
import Derived.BigRegion
import Derived.Deep.RegionHeld3
import Derived.StillTailTactics
import Derived.OrdersIn
import Derived.Test.YtilbbnjfaoldoaaGreatDoorProg
namespace Go.Proofs.YtilbbnjfaoldoaaGreatDoor
open Go Go.RowKit

/-- A call that hands back the value v; of what was there nothing has turned. -/
def Gives (P : Program) (f : FuncId) (args : Array Value) (w : World) (v : Value) : Prop :=
  Calls P f args w fun e w' => e = .returned v ∧ Below w.heap.size w w'

theorem Gives.of_same {P : Program} {f : FuncId} {args : Array Value} {w : World} {v : Value}
    (h : Calls P f args w fun e w' => e = .returned v ∧ w' = w) : Gives P f args w v :=
  h.mono fun _ _ ⟨he, hw⟩ => ⟨he, hw ▸ Below.refl _ _⟩

theorem Gives.to {P : Program} {f : FuncId} {args : Array Value} {w : World} {v v' : Value} (h : Gives P f args w v) (e : v = v') : Gives P f args w v' := e ▸ h

/-- The slice value v has n elements of sz cells each; cell number i of them holds c i; all of it below block B. -/
def Row (w : World) (B sz : Nat) (v : Value) (n : Nat) (c : Nat → Value) : Prop :=
  n ≤ 140737488355328 ∧ ∃ a cap, v = .slice a n cap ∧ n ≤ cap ∧ cap ≤ maxLen ∧ (0 < n → ∃ b off, a = some ⟨b, off, none⟩ ∧ b < B ∧ ∀ i, i < n * sz → w.cell? ⟨b, off + i, none⟩ = some (c i))

theorem Row.below {w w' : World} {B sz : Nat} {v : Value} {n : Nat} {c : Nat → Value} (h : Row w B sz v n c) {B' : Nat} (hb : Below B' w w') (hB : B ≤ B') : Row w' B sz v n c := by
  obtain ⟨hn, a, cap, hv, hc, hm, hr⟩ := h
  refine ⟨hn, a, cap, hv, hc, hm, fun h0 => ?_⟩
  obtain ⟨b, off, ha, hbB, hcell⟩ := hr h0
  exact ⟨b, off, ha, hbB, fun i hi => (hb.cell (p := ⟨b, off + i, none⟩) (by exact Nat.lt_of_lt_of_le hbB hB)).trans (hcell i hi)⟩

theorem Row.mono {w : World} {B sz : Nat} {v : Value} {n : Nat} {c : Nat → Value} (h : Row w B sz v n c) {B' : Nat} (hB : B ≤ B') : Row w B' sz v n c := by
  obtain ⟨hn, a, cap, hv, hc, hm, hr⟩ := h
  refine ⟨hn, a, cap, hv, hc, hm, fun h0 => ?_⟩
  obtain ⟨b, off, ha, hbB, hcell⟩ := hr h0
  exact ⟨b, off, ha, by omega, hcell⟩

theorem bcell {B : Nat} {W w1 : World} (hb : Below B W w1) : (∀ b o, b < B → w1.cell? ⟨b, o, none⟩ = W.cell? ⟨b, o, none⟩) ∧ (∀ b o, b < B → w1.frozen? ⟨b, o, none⟩ = W.frozen? ⟨b, o, none⟩) :=
  ⟨fun b o h => hb.cell (p := ⟨b, o, none⟩) h, fun b o h => hb.frozen (p := ⟨b, o, none⟩) h⟩

/-- A bound of the element type. -/
structure Bnd where
  inn : Nat
  can : Nat
deriving DecidableEq, Repr, Inhabited

/-- A number that fits 64 bits; kept shut, so that the walk does not see the numeral. -/
def U64 (n : Nat) : Prop := n < 18446744073709551616
/-- Sets as numbers; kept shut, so that simp moves no cast. -/
def bitN (e : Nat) : Nat := 2 ^ e
def sAnd (a b : Nat) : Nat := a &&& b
def sOr (a b : Nat) : Nat := a ||| b
def sDiff (a b : Nat) : Nat := a ^^^ (a &&& b)
theorem bitN_testBit (e i : Nat) : (bitN e).testBit i = decide (e = i) := by unfold bitN; exact Nat.testBit_two_pow
theorem sAnd_testBit (a b i : Nat) : (sAnd a b).testBit i = (a.testBit i && b.testBit i) := Nat.testBit_and _ _ _
theorem sOr_testBit (a b i : Nat) : (sOr a b).testBit i = (a.testBit i || b.testBit i) := Nat.testBit_or _ _ _
theorem sDiff_testBit (a b i : Nat) : (sDiff a b).testBit i = (a.testBit i && !b.testBit i) := by
  unfold sDiff; rw [Nat.testBit_xor, Nat.testBit_and]; cases a.testBit i <;> cases b.testBit i <;> rfl
theorem U64.and {a b : Nat} (_ha : U64 a) (hb : U64 b) : U64 (sAnd a b) := Nat.lt_of_le_of_lt Nat.and_le_right hb
theorem U64.or {a b : Nat} (ha : U64 a) (hb : U64 b) : U64 (sOr a b) := Nat.or_lt_two_pow (n := 64) ha hb
theorem U64.diff {a b : Nat} (ha : U64 a) : U64 (sDiff a b) := Nat.xor_lt_two_pow (n := 64) ha (Nat.lt_of_le_of_lt Nat.and_le_left ha)
theorem U64.bit {e : Nat} (h : e < 64) : U64 (bitN e) := Nat.pow_lt_pow_right (by decide) h
theorem u64_sAnd {a b : Nat} (ha : U64 a) (hb : U64 b) : bits .and .u64 (a : Int) (b : Int) = ((sAnd a b : Nat) : Int) := u64_and_nat a b ha hb
theorem u64_sOr {a b : Nat} (ha : U64 a) (hb : U64 b) : bits .or .u64 (a : Int) (b : Int) = ((sOr a b : Nat) : Int) := u64_or_nat a b ha hb
theorem u64_sDiff {a b : Nat} (ha : U64 a) (hb : U64 b) : bits .andNot .u64 (a : Int) (b : Int) = ((sDiff a b : Nat) : Int) := by
  rw [u64_andNot_nat a b ha hb]
  congr 1
  apply Nat.eq_of_testBit_eq
  intro i
  have hb' : b < 2 ^ 64 := hb
  have ha' : a < 2 ^ 64 := ha
  rw [sDiff_testBit, Nat.testBit_and, show 18446744073709551615 - b = 2 ^ 64 - (b + 1) by omega, Nat.testBit_two_pow_sub_succ hb']
  by_cases hi : i < 64
  · cases a.testBit i <;> cases b.testBit i <;> simp [hi]
  · have : a.testBit i = false := Nat.testBit_lt_two_pow (Nat.lt_of_lt_of_le ha' (Nat.pow_le_pow_right (by decide) (by omega)))
    simp [this]
theorem i64_and {a b : Nat} (ha : a < 2 ^ 62) (hb : b < 2 ^ 62) : bits .and .i64 (a : Int) (b : Int) = ((a &&& b : Nat) : Int) := by
  have hx : a &&& b < 2 ^ 62 := Nat.and_lt_two_pow _ hb
  have h1 : (BitVec.ofInt 64 (a : Int)).toNat = a := by rw [BitVec.ofInt_natCast, BitVec.toNat_ofNat]; exact Nat.mod_eq_of_lt (by omega)
  have h2 : (BitVec.ofInt 64 (b : Int)).toNat = b := by rw [BitVec.ofInt_natCast, BitVec.toNat_ofNat]; exact Nat.mod_eq_of_lt (by omega)
  show IntKind.i64.wrap ((BitVec.ofInt 64 (a : Int) &&& BitVec.ofInt 64 (b : Int)).toNat : Int) = _
  rw [BitVec.toNat_and, h1, h2]
  exact IntWalk.i64_in _ (by omega)
theorem mask_bit (mask k : Nat) (h : mask < 2 ^ 62) : (bits .and .i64 ((mask : Int) / 2 ^ k) 1 == 1) = mask.testBit k := by
  have e : ((mask : Int) / 2 ^ k) = ((mask / 2 ^ k : Nat) : Int) := by simp
  rw [e, show (1 : Int) = ((1 : Nat) : Int) from rfl, i64_and (Nat.lt_of_le_of_lt (Nat.div_le_self _ _) h) (by decide)]
  rw [Nat.testBit_eq_decide_div_mod_eq, Nat.and_one_is_mod]
  rw [Bool.eq_iff_iff]; simp; omega
theorem zeqI (n : Nat) : (((n : Nat) : Int) == 0) = (n == 0) := by rw [Bool.eq_iff_iff]; simp
theorem zneI (n : Nat) : (((n : Nat) : Int) != 0) = !(n == 0) := by rw [bne, zeqI]
theorem sAnd_bit_zero (c e : Nat) : (((sAnd c (bitN e) : Nat) : Int) == 0) = !c.testBit e := by
  have hp := Nat.two_pow_pos e
  have hm : c / 2 ^ e % 2 = 0 ∨ c / 2 ^ e % 2 = 1 := by omega
  unfold sAnd bitN
  rw [nat_bit, Nat.testBit_eq_decide_div_mod_eq]
  rcases hm with hm | hm
  · rw [hm]; simp
  · rw [hm, Nat.one_mul]
    generalize 2 ^ e = q at hp
    simp; omega
theorem sAnd_bit_zeroN (c e : Nat) : (sAnd c (bitN e) == 0) = !c.testBit e := by rw [← zeqI, sAnd_bit_zero]
theorem sDiff_all {a : Nat} (ha : U64 a) : bits .andNot .u64 (a : Int) 4095 = ((sDiff a 4095 : Nat) : Int) := u64_sDiff ha (b := 4095) (by show (4095 : Nat) < _; decide)
theorem sAnd_bit_nonzero (c e : Nat) : (((sAnd c (bitN e) : Nat) : Int) != 0) = c.testBit e := by
  rw [bne, sAnd_bit_zero c e, Bool.not_not]

/-- The first number below n for which p says yes; -1 if there is none. -/
def idxOf (p : Nat → Bool) (n : Nat) : Int := match (List.range n).find? p with | some k => k | none => -1
theorem idxOf_none {p : Nat → Bool} {n : Nat} (h : ∀ j, j < n → p j = false) : idxOf p n = -1 := by
  unfold idxOf
  rw [List.find?_eq_none.2 (by intro x hx; rw [h x (List.mem_range.1 hx)]; decide)]
theorem idxOf_some {p : Nat → Bool} {n k : Nat} (hk : k < n) (h : ∀ j, j < k → p j = false) (hp : p k = true) : idxOf p n = k := by
  unfold idxOf
  have : (List.range n).find? p = some k := by
    rw [List.find?_range_eq_some]
    exact ⟨hp, List.mem_range.2 hk, fun j hj => by rw [h j hj]; rfl⟩
  rw [this]
theorem idxOf_any (p : Nat → Bool) (n : Nat) : decide (0 ≤ idxOf p n) = (List.range n).any p := by
  unfold idxOf
  cases h : (List.range n).find? p with
  | none =>
    rw [List.find?_eq_none] at h
    have : (List.range n).any p = false := by rw [Bool.eq_false_iff]; intro hc; obtain ⟨x, hx, hp⟩ := List.any_eq_true.1 hc; exact h x hx hp
    rw [this]; rfl
  | some k =>
    have hp := List.find?_some h
    have hm := List.mem_of_find?_eq_some h
    rw [List.any_eq_true.2 ⟨k, hm, hp⟩]; simp
/-- A cell of a row, later. -/
theorem rowCell {w wr : World} {b off N B i o : Nat} {c : Nat → Value} (hcell : ∀ i, i < N → w.cell? ⟨b, off + i, none⟩ = some (c i)) (hb : Below B w wr) (hbs : b < B) (i' : Nat) (hi : i' < N) (e : i' = i) (ho : off + i = o) :
    wr.cell? ⟨b, o, none⟩ = some (c i) := by
  subst e ho; exact (hb.cell (p := ⟨b, off + i', none⟩) hbs).trans (hcell i' hi)
theorem Row.take {w : World} {B sz : Nat} {a : Option Addr} {n cap : Nat} {c : Nat → Value} (h : Row w B sz (.slice a n cap) n c) {i : Nat} (hi : i ≤ n) : Row w B sz (.slice a i cap) i c := by
  obtain ⟨hn, a', cap', hv, hc, hm, hr⟩ := h
  cases hv
  refine ⟨by omega, a, cap, rfl, by omega, hm, fun h0 => ?_⟩
  obtain ⟨b, off, ha, hbB, hcell⟩ := hr (by omega)
  exact ⟨b, off, ha, hbB, fun j hj => hcell j (Nat.lt_of_lt_of_le hj (Nat.mul_le_mul_right _ hi))⟩
/-! A region that draws its order, and whose callees make memory: walked once, in the order of the text. -/
open Go.Sort in
theorem cell_grow {w : World} {d : Nat} {os : Array Obj} (b o : Nat) (h : b < w.heap.size) : (grow (redrawn w d) os).cell? ⟨b, o, none⟩ = w.cell? ⟨b, o, none⟩ := (below_regrown w d os).cell (p := ⟨b, o, none⟩) h
open Go.Sort in
theorem below_grow {w W : World} (h : Below w.heap.size w W) (d : Nat) (os : Array Obj) : Below w.heap.size w (grow (redrawn W d) os) := h.trans ((below_regrown W d os).mono h.size)
open Go.Sort in
theorem frozen_grow {w : World} {d : Nat} {os : Array Obj} (b o : Nat) (h : b < w.heap.size) : (grow (redrawn w d) os).frozen? ⟨b, o, none⟩ = w.frozen? ⟨b, o, none⟩ := (below_regrown w d os).frozen (p := ⟨b, o, none⟩) h
open Go.Sort in
theorem wp_region_qb {P : Program} {id : Nat} {Q : Exit → Act → World → Prop} {a : Act} {w : World} {l : List Oper} (hm : P.follows .mixedOrders = true) (hB : Region.lexB .any l.toArray = true)
    (h : wpQuiet P l.toArray (fun w' => ∃ p : Regrown, w' = grow (redrawn w p.d) p.os) (fun a' => ∀ w', Below w.heap.size w w' → Q .normal a' w') l a) : (Code.region id l.toArray true).wp P Q a w := by
  refine wp_region_quiet (C := fun w' => ∃ p : Regrown, w' = grow (redrawn w p.d) p.os) hm hB ⟨⟨w.drawn + 1, #[]⟩, by rw [grow_empty]; rfl⟩ ?_
  have key : ∀ (l' : List Oper) (a : Act), wpQuiet P l.toArray (fun w' => ∃ p : Regrown, w' = grow (redrawn w p.d) p.os) (fun a' => ∀ w', Below w.heap.size w w' → Q .normal a' w') l' a →
      wpQuiet P l.toArray (fun w' => ∃ p : Regrown, w' = grow (redrawn w p.d) p.os) (fun a' => ∀ w', (∃ p : Regrown, w' = grow (redrawn w p.d) p.os) → Q .normal a' w') l' a := by
    intro l'
    induction l' with
    | nil => intro a h w' ⟨p, hp⟩; exact h w' (hp ▸ below_regrown w p.d p.os)
    | cons o l' ih =>
      intro a h
      unfold wpQuiet at h ⊢
      split
      · rename_i hw; rw [if_pos hw] at h; exact Oper.quiet_mono (fun a => ih a) h
      · rename_i hw; rw [if_neg hw] at h; exact ih _ h
  exact key _ _ (by simpa using h)
open Go.Sort in
/-- A callee's contract, met in a world of the class. -/
theorem Gives.quiet {P : Program} {f : FuncId} {args : Array Value} {w : World} {d : Nat} {os : Array Obj} {v : Value} (h : Gives P f args (grow (redrawn w d) os) v) :
    Calls P f args (grow (redrawn w d) os) fun e w'' => e = .returned v ∧ ∃ p : Regrown, w'' = grow (redrawn w p.d) p.os := Calls.regrown_of h


/-! A map that the call has just made, its keys written out. -/
theorem run_getObj_new {P : Program} (w : World) (es : Array MapEntry) (c : Nat) : (getObj w.heap.size).run P (w.alloc (.map es c)) = .ok (.map es c) (w.alloc (.map es c)) := by
  simp only [getObj, Sem.run, heap_alloc_last]
theorem run_setObj_new {P : Program} (w : World) (es es' : Array MapEntry) (c c' : Nat) : (setObj w.heap.size (.map es' c')).run P (w.alloc (.map es c)) = .ok () (w.alloc (.map es' c')) := by
  simp only [setObj, Sem.run, heap_alloc_last]
  congr 1
  simp only [World.alloc]
  congr 1
  apply Array.ext_getElem?
  intro i
  by_cases h : w.heap.size = i
  · subst h; simp
  · have h' : ¬ i = w.heap.size := fun e => h e.symm
    simp [h, h', Array.getElem?_push]
theorem run_mapInsert_new {P : Program} (w : World) {t kt et : TypeId} (es : Array MapEntry) (clock : Nat) (key v : Value) (hu : P.underlying t = some (.map kt et))
    (hc : ∀ w, (Instr.checkKey false 10000 kt key).run P w = .ok () w) (hf : ∀ w, (Instr.findKey kt key es.toList).run P w = .ok none w) :
    (Instr.mapUpdate t (.map (some w.heap.size)) key v).run P (w.alloc (.map es clock)) = .ok () (w.alloc (.map (es.push { key, val := v, born := clock }) (clock + 1))) := by
  simp only [Instr.mapUpdate, Sem.run_bind, run_underlying hu, Result.andThen_ok, run_getObj_new, hc, hf, run_setObj_new]
theorem run_mapLookup_new {P : Program} (w : World) {t kt et : TypeId} (es : Array MapEntry) (clock : Nat) (key v : Value) (i : Nat) (hu : P.underlying t = some (.map kt et)) (he : es.isEmpty = false)
    (hc : ∀ w, (Instr.checkKey false 10000 kt key).run P w = .ok () w) (hf : ∀ w, (Instr.findKey kt key es.toList).run P w = .ok (some (i, v)) w) :
    (Instr.lookup t (.map (some w.heap.size)) key false).run P (w.alloc (.map es clock)) = .ok v (w.alloc (.map es clock)) := by
  simp only [Instr.lookup, Sem.run_bind, run_underlying hu, Result.andThen_ok, run_getObj_new, he, hc, hf, Sem.run_pure, Bool.false_eq_true, if_false]

/-- The world under a new name, with what is needed of it. -/
theorem abs_wp {P : Program} {c : Code} {Q : Exit → Act → World → Prop} {a : Act} {W : World} (R : World → Prop) (hR : R W) (h : ∀ W', R W' → Code.wp P c Q a W') : Code.wp P c Q a W := h W hR
theorem heap_new0 (w : World) (o : Obj) : (w.alloc o).heap[w.heap.size]? = some o := heap_alloc_last w o
theorem heap_at {w : World} {o : Obj} {k : Nat} (h : k = w.heap.size) : (w.alloc o).heap[k]? = some o := by subst h; exact heap_alloc_last w o
theorem heap_old {w : World} {o o' : Obj} {k : Nat} (h : w.heap[k]? = some o') : (w.alloc o).heap[k]? = some o' := (Below.heap_alloc _ _ _ (Array.getElem?_eq_some_iff.1 h).1).trans h
theorem heap_new2 (w : World) (o1 o2 : Obj) : ((w.alloc o1).alloc o2).heap[w.heap.size]? = some o1 ∧ ((w.alloc o1).alloc o2).heap[w.heap.size + 1]? = some o2 :=
  ⟨heap_old (heap_new0 _ _), heap_at (by simp)⟩
theorem heap_new3 (w : World) (o1 o2 o3 : Obj) : (((w.alloc o1).alloc o2).alloc o3).heap[w.heap.size]? = some o1 ∧ (((w.alloc o1).alloc o2).alloc o3).heap[w.heap.size + 1]? = some o2 ∧ (((w.alloc o1).alloc o2).alloc o3).heap[w.heap.size + 2]? = some o3 :=
  ⟨heap_old (heap_new2 _ _ _).1, heap_old (heap_new2 _ _ _).2, heap_at (by simp)⟩
theorem heap_new4 (w : World) (o1 o2 o3 o4 : Obj) : ((((w.alloc o1).alloc o2).alloc o3).alloc o4).heap[w.heap.size]? = some o1 ∧ ((((w.alloc o1).alloc o2).alloc o3).alloc o4).heap[w.heap.size + 1]? = some o2 ∧
    ((((w.alloc o1).alloc o2).alloc o3).alloc o4).heap[w.heap.size + 2]? = some o3 ∧ ((((w.alloc o1).alloc o2).alloc o3).alloc o4).heap[w.heap.size + 3]? = some o4 :=
  ⟨heap_old (heap_new3 _ _ _ _).1, heap_old (heap_new3 _ _ _ _).2.1, heap_old (heap_new3 _ _ _ _).2.2, heap_at (by simp)⟩
theorem Below.new1 (w : World) (o : Obj) : Below w.heap.size w (w.alloc o) := (Below.refl _ _).alloc (Nat.le_refl _) _
theorem Below.new2 (w : World) (o1 o2 : Obj) : Below w.heap.size w ((w.alloc o1).alloc o2) := (Below.new1 w o1).alloc (by simp) _
theorem Below.new3 (w : World) (o1 o2 o3 : Obj) : Below w.heap.size w (((w.alloc o1).alloc o2).alloc o3) := (Below.new2 w o1 o2).alloc (by simp; omega) _
theorem Below.new4 (w : World) (o1 o2 o3 o4 : Obj) : Below w.heap.size w ((((w.alloc o1).alloc o2).alloc o3).alloc o4) := (Below.new3 w o1 o2 o3).alloc (by simp; omega) _
theorem loadVar_one {P : Program} {w : World} {ty : TypeId} {d : TypeDesc} {a : Addr} {v : Value} (hu : P.underlying ty = some d) (hd : d.isRow = false) (hc : w.cell? a = some v) : (loadVar ty a).run P w = .ok v w := by
  have hagg : (isAgg ty).run P w = .ok false w := by
    unfold isAgg
    rw [Sem.run_bind, run_underlying hu w]
    cases d <;> simp_all
  simp [loadVar, Sem.run_bind, hagg, load, Sem.run, hc]
theorem results_cell1 {fn : Func} {p : Tmp} {ty : TypeId} (h : fn.results = #[.cell p ty]) {tmps : Array Value} {P : Program} {w : World} {a : Addr} {v : Value} (hp : tmps.getD p undef = .pointer (some a)) (hl : (loadVar ty a).run P w = .ok v w) :
    (results fn tmps).run P w = .ok v w := by
  have hp' : tmps[p]?.getD undef = .pointer (some a) := by rw [← hp]; simp
  simp [results, h, hp', asAddr, hl]
end Go.Proofs.YtilbbnjfaoldoaaGreatDoor

namespace Go.Proofs.YtilbbnjfaoldoaaGreatDoor
open Go Go.RowKit Go.Sort
section
variable {P : Program} {ops : Array Oper} {md : Region.Mode} {C : World → Prop}
def wpAnyC (P : Program) (md : Region.Mode) (ops : Array Oper) (C : World → Prop) (n : Nat) (L : Array Bool → Act → Prop) : Nat → Array Bool → Act → Prop
  | 0, listed, a => L listed a
  | f + 1, listed, a =>
    Region.ready md ops listed ≠ [] ∧ ∀ i ∈ Region.ready md ops listed, i < n ∧ qOp P ops C i (wpAnyC P md ops C n L f (listed.setIfInBounds i true)) a
theorem wpAny_of_headC {n g : Nat} {L : Array Bool → Act → Prop} {Q' : Exit → Act → World → Prop} (hL : ∀ listed a w, C w → L listed a → wpAny P md ops Q' g listed a w) :
    ∀ (f : Nat) (listed : Array Bool) (a : Act) (w : World), C w → wpAnyC P md ops C n L f listed a → wpAny P md ops Q' (f + g) listed a w
  | 0, listed, a, w, hw, h => by rw [Nat.zero_add]; exact hL _ _ _ hw h
  | f + 1, listed, a, w, hw, h => by
    rw [show f + 1 + g = (f + g) + 1 by omega]
    exact ⟨fun h0 => absurd h0 h.1, fun i hi => wpOp_of_qOp hw (fun a' w' hw' h' => wpAny_of_headC hL f _ a' w' hw' h') (h.2 i hi).2⟩
theorem wpAnyC_first {n i : Nat} {oi : Oper} {v : Value} {L : Array Bool → Act → Prop} (hi : ops[i]? = some oi) (hsel : ∀ (j : Nat) (o : Oper) cs b, ops[j]? = some o → o.op ≠ .select cs b)
    (hs : Region.sinkB md ops n = true) (hc : Region.chainB md ops n = true) (hn : n < ops.size) (hin : i < n)
    (hdone : ∀ listed a, L listed a → ∀ j ∈ Region.ready md ops listed, n ≤ j) :
    ∀ (f : Nat) (listed : Array Bool) (a : Act), HeadInv md ops n listed →
      (∀ j oj, ops[j]? = some oj → j ≠ i → listed.getD j true = false → (∀ e ∈ oj.after, Region.binds md e = true → e.on ≠ i) → oi.apart ops oj = true) →
      i ∈ Region.ready md ops listed → YieldsIn P ops C oi v a →
      wpAnyC P md ops C n L f (listed.setIfInBounds i true) (a.put oi.dst v) → wpAnyC P md ops C n L (f + 1) listed a := by
  intro f
  induction f with
  | zero =>
    intro listed a inv _ hr hy H
    have hun := (mem_ready.1 hr).1
    refine ⟨fun h => (by rw [h] at hr; cases hr), fun j hj => ?_⟩
    have hjn : j < n := by
      rcases Nat.lt_or_ge j n with h | h
      · exact h
      · exact absurd hj (tail_waits hs hc hn inv _ i rfl hin hun j h)
    refine ⟨hjn, ?_⟩
    by_cases hji : j = i
    · subst hji; exact hy.qOp hi H
    · have := hdone _ _ H j (ready_mono hj hji)
      omega
  | succ f ih =>
    intro listed a inv hfree hr hy H
    have hun := (mem_ready.1 hr).1
    refine ⟨fun h => (by rw [h] at hr; cases hr), fun j hj => ?_⟩
    have hjn : j < n := by
      rcases Nat.lt_or_ge j n with h | h
      · exact h
      · exact absurd hj (tail_waits hs hc hn inv _ i rfl hin hun j h)
    refine ⟨hjn, ?_⟩
    by_cases hji : j = i
    · subst hji; exact hy.qOp hi H
    · have h1 := (H.2 j (ready_mono hj hji)).2
      obtain ⟨hjun, oj, hoj, hall⟩ := mem_ready.1 hj
      have hnot : ∀ e ∈ oj.after, Region.binds md e = true → e.on ≠ i := fun e he hb heq => by
        have h1 := hall e he hb
        rw [heq, getD_both hun] at h1
        cases h1
      have h2 := qOp_put hoj (hfree j oj hoj hji hjun hnot) (fun cs b => hsel i oi cs b hi) (fun cs b => hsel j oj cs b hoj) hy h1
      have hfree' : ∀ k ok, ops[k]? = some ok → k ≠ i → (listed.setIfInBounds j true).getD k true = false →
          (∀ e ∈ ok.after, Region.binds md e = true → e.on ≠ i) → oi.apart ops ok = true := fun k ok hk hki hun hno => by
        refine hfree k ok hk hki ?_ hno
        by_cases hjk : j = k
        · subst hjk; exact hjun
        · rw [getD_set_ne true hjk] at hun; exact hun
      refine qOp_mono (fun a' h3 => ih (listed.setIfInBounds j true) a' (inv.set hj hjn) hfree' (ready_mono hr (Ne.symm hji)) h3.1 ?_) h2
      rw [Array.setIfInBounds_comm _ _ hji]
      exact h3.2
theorem wpAnyC_lex {n g : Nat} {Lq : Act → Prop} (hsel : Region.noSelect ops = true) (hs : Region.sinkB md ops n = true) (hc : Region.chainB md ops n = true) (hn : n < ops.size) :
    ∀ (l : List Oper) (k : Nat) (listed : Array Bool) (a : Act), (∀ j, j < l.length → l[j]? = ops[k + j]?) → k + l.length = n → HeadInv md ops n listed →
    Region.lexHead md ops g l.length k listed = true → wpQuiet P ops C Lq l a →
    wpAnyC P md ops C n (fun listed' a' => Region.seqB md ops g n listed' = true ∧ Lq a') l.length listed a
  | [], k, listed, a, _, hk, _, hB, h => by
    have : k = n := by simpa using hk
    subst this
    exact ⟨by simpa [Region.lexHead] using hB, h⟩
  | o :: l, k, listed, a, hl, hk, inv, hB, h => by
    have h0 : ops[k]? = some o := by simpa using (hl 0 (by simp)).symm
    simp only [List.length_cons, Region.lexHead, Bool.and_eq_true] at hB
    obtain ⟨⟨hr, hf⟩, hB'⟩ := hB
    have hkn : k < n := by simp only [List.length_cons] at hk; omega
    have hr' : k ∈ Region.ready md ops listed := by simpa using hr
    have hst : qOp P ops C k (wpQuiet P ops C Lq l) a := by unfold qOp; simp only [h0]; exact h
    obtain ⟨v, hy, hK⟩ := yieldsIn_of_qOp h0 hst
    exact wpAnyC_first h0 (Region.noSelect_spec hsel) hs hc hn hkn (fun listed' a' hL => seqB_ready hL.1) l.length listed a inv (Region.free_spec h0 hf) hr' hy
      (wpAnyC_lex hsel hs hc hn l (k + 1) _ _ (fun j hj => by have := hl (j + 1) (by simp; omega); simpa [Nat.add_assoc, Nat.add_comm 1 j] using this) (by simp only [List.length_cons] at hk; omega) (inv.set hr' hkn) hB' hK)
theorem wp_region_tailC {id : Nat} {Q : Exit → Act → World → Prop} {a : Act} {w : World} {l : List Oper} (n : Nat) (hm : P.follows .mixedOrders = true) (hB : Region.lexTailB .any l.toArray n = true)
    (hC : C { w with drawn := w.drawn + 1 })
    (h : wpQuiet P l.toArray C (fun a' => ∀ w', C w' → wpList P l.toArray Q (l.drop n) a' w') (l.take n) a) : (Code.region id l.toArray true).wp P Q a w := by
  simp only [Region.lexTailB, Bool.and_eq_true, decide_eq_true_eq] at hB
  obtain ⟨⟨⟨⟨hsel, hn⟩, hs⟩, hc⟩, hlex⟩ := hB
  have hn' : n < l.length := by simpa using hn
  have htl : (l.take n).length = n := by simp; omega
  have hdl : (l.drop n).length = l.toArray.size - n := by simp
  have inv0 : HeadInv .any l.toArray n (Array.replicate l.toArray.size false) :=
    ⟨by simp, fun j oj _ hl => (by rw [getD_replicate_false] at hl; cases hl), fun t _ ht => getD_in (by simpa using ht) (getD_replicate_false _ _)⟩
  have H := wpAnyC_lex (md := .any) (g := l.toArray.size - n) hsel hs hc hn (l.take n) 0 _ a (fun j hj => by
    have hj' : j < n := by rw [htl] at hj; exact hj
    simp [hj']) (by simpa using htl) inv0 (by rw [htl]; exact hlex) h
  refine wp_region_any hm ?_
  have := wpAny_of_headC (Q' := Q) (g := l.toArray.size - n) (fun listed a' w' hw' hL => by
    have := wpAny_of_seq (md := .any) (Q' := Q) (l.drop n) n listed a' w' (fun j => by simp [List.getElem?_drop]) (by rw [hdl]; exact hL.1) (hL.2 w' hw')
    rwa [hdl] at this) _ _ _ _ hC H
  rw [htl, show n + (l.toArray.size - n) = l.toArray.size by omega] at this
  exact this
/-- The same at the class 'some blocks laid, some draws made'. -/
theorem wp_region_qbt {id : Nat} {Q : Exit → Act → World → Prop} {a : Act} {w : World} {l : List Oper} (n : Nat) (hm : P.follows .mixedOrders = true) (hB : Region.lexTailB .any l.toArray n = true)
    (h : wpQuiet P l.toArray (fun w' => ∃ p : Regrown, w' = grow (redrawn w p.d) p.os) (fun a' => ∀ w', Below w.heap.size w w' → wpList P l.toArray Q (l.drop n) a' w') (l.take n) a) : (Code.region id l.toArray true).wp P Q a w := by
  refine wp_region_tailC (C := fun w' => ∃ p : Regrown, w' = grow (redrawn w p.d) p.os) n hm hB ⟨⟨w.drawn + 1, #[]⟩, by rw [grow_empty]; rfl⟩ ?_
  have key : ∀ (l' : List Oper) (a : Act), wpQuiet P l.toArray (fun w' => ∃ p : Regrown, w' = grow (redrawn w p.d) p.os) (fun a' => ∀ w', Below w.heap.size w w' → wpList P l.toArray Q (l.drop n) a' w') l' a →
      wpQuiet P l.toArray (fun w' => ∃ p : Regrown, w' = grow (redrawn w p.d) p.os) (fun a' => ∀ w', (∃ p : Regrown, w' = grow (redrawn w p.d) p.os) → wpList P l.toArray Q (l.drop n) a' w') l' a := by
    intro l'
    induction l' with
    | nil => intro a h w' ⟨p, hp⟩; exact h w' (hp ▸ below_regrown w p.d p.os)
    | cons o l' ih =>
      intro a h
      unfold wpQuiet at h ⊢
      split
      · rename_i hw; rw [if_pos hw] at h; exact Oper.quiet_mono (fun a => ih a) h
      · rename_i hw; rw [if_neg hw] at h; exact ih _ h
  exact key _ _ h
end
end Go.Proofs.YtilbbnjfaoldoaaGreatDoor

namespace Go.Proofs.YtilbbnjfaoldoaaGreatDoor
open Go Go.RowKit Go.Sort
section
variable {P : Program} {ops : Array Oper} {md : Region.Mode} {n l : Nat}
theorem rowsIn_round {row : String} {args : Array Value} {w : World} {R : Value → World → Prop} (h : Rows P row args w R) : RowsIn (Fence.wide.inRound l) n P row args w R :=
  fun c cs _ => let ⟨v, w', r, s⟩ := h c cs; ⟨v, w', r, stepsIn_wide.2 s⟩
theorem oper_round {o : Oper} {a : Act} {w : World} {K K' : Act → World → Prop} {Q : Exit → Act → World → Prop} (hd : ∀ c, o.op ≠ .defer c) (hout : ¬ LetsOut Q) (hk : ∀ a w, K a w → K' a w) (h : o.wp P a w K Q) :
    o.wpIn (Fence.wide.inRound l) n P a w K' Q := by
  refine ⟨fun _ _ => trivial, ?_⟩
  rw [Oper.semAt_eq _ _ _ hd]
  unfold Oper.wp at h
  generalize (execOp a.eval o).run P w = r at *
  cases r with
  | ok x w' =>
    cases x <;> simp only [Oper.upon] at h <;> simp only [Oper.uponIn]
    case value v => exact hk _ _ h
    case skip => exact hk _ _ h
    case defer d => exact hk _ _ h
    case enter f args =>
      refine ⟨(fun h0 => by cases h0), CallsIn.inRound l (callsIn_wide.2 (h.mono fun e w'' he => ?_))⟩
      cases e with
      | returned v => exact hk _ _ he
      | panicked chain => exact he
      | outgrown => exact absurd he hout
    case row row args => exact ⟨(fun h0 => by cases h0), rowsIn_round (h.mono fun _ _ he => hk _ _ he)⟩
  | halt x w' => cases x <;> simp only [Oper.upon] at h <;> simp only [Oper.uponIn]; exact h
theorem wpOp_round {Q : Exit → Act → World → Prop} (hd : ∀ (j : Nat) (o : Oper), ops[j]? = some o → ∀ c, o.op ≠ .defer c) (hout : ¬ LetsOut Q) {i : Nat} {K K' : Act → World → Prop} (hk : ∀ a w, K a w → K' a w) {a : Act} {w : World}
    (h : wpOp P ops Q i K a w) : wpOpIn (Fence.wide.inRound l) n P ops Q i K' a w := by
  unfold wpOp at h
  unfold wpOpIn
  split
  · rename_i ho; simp only [ho] at h; exact hk _ _ h
  · rename_i o ho
    simp only [ho] at h
    split
    · rename_i hw
      rw [if_pos hw] at h
      rcases h with h | h
      · exact oper_round (hd _ _ ho) hout hk h
      · exact absurd h.2 hout
    · rename_i hw
      rw [if_neg hw] at h
      exact ⟨fun _ _ => trivial, hk _ _ h⟩
theorem wpAny_round {Q : Exit → Act → World → Prop} (hd : ∀ (j : Nat) (o : Oper), ops[j]? = some o → ∀ c, o.op ≠ .defer c) (hout : ¬ LetsOut Q) : ∀ (f : Nat) (listed : Array Bool) (a : Act) (w : World),
    wpAny P md ops Q f listed a w → wpAnyIn (Fence.wide.inRound l) n P md ops Q f listed a w
  | 0, _, _, _, h => h
  | f + 1, _, _, _, h => ⟨h.1, fun i hi => wpOp_round hd hout (fun a' w' => wpAny_round hd hout f _ a' w') (h.2 i hi)⟩
def noDefers (ops : Array Oper) : Bool := ops.all fun o => match o.op with | .defer _ => false | _ => true
theorem noDefers_spec (h : noDefers ops = true) : ∀ (j : Nat) (o : Oper), ops[j]? = some o → ∀ c, o.op ≠ .defer c := fun j o ho c hc => by
  unfold noDefers at h
  have := Array.all_eq_true_iff_forall_mem.1 h o (Array.mem_of_getElem? ho)
  rw [hc] at this; cases this
/-- A quiet region in a round's body. -/
theorem wpIn_region_qb {id : Nat} {Q : Exit → Act → World → Prop} {a : Act} {w : World} {l' : List Oper} (hm : P.follows .mixedOrders = true) (hB : (Region.lexB .any l'.toArray && noDefers l'.toArray) = true) (hout : ¬ LetsOut Q)
    (h : wpQuiet P l'.toArray (fun w' => ∃ p : Regrown, w' = grow (redrawn w p.d) p.os) (fun a' => ∀ w', Below w.heap.size w w' → Q .normal a' w') l' a) : (Code.region id l'.toArray true).wpIn (Fence.wide.inRound l) n P Q a w := by
  simp only [Bool.and_eq_true] at hB
  have hlex := hB.1
  simp only [Region.lexB, Bool.and_eq_true] at hlex
  refine wpIn_region_any hm (wpAny_round (noDefers_spec hB.2) hout _ _ _ _ ?_)
  refine wpAny_of_quiet (C := fun w' => ∃ p : Regrown, w' = grow (redrawn w p.d) p.os) (Q := fun a' => ∀ w', Below w.heap.size w w' → Q .normal a' w') (fun _ w' ⟨p, hp⟩ h => h w' (hp ▸ below_regrown w p.d p.os)) _ _ _ _ ⟨⟨w.drawn + 1, #[]⟩, by rw [grow_empty]; rfl⟩ ?_
  have := wpAnyQ_lex (C := fun w' => ∃ p : Regrown, w' = grow (redrawn w p.d) p.os) (md := .any) hlex.1 l' 0 (Array.replicate l'.toArray.size false) a (by simp) (by simpa using hlex.2) h
  simpa using this
/-- One with a forced tail that writes: the tail is walked as a plain region's operations. -/
theorem wpIn_region_qbt {id : Nat} {Q : Exit → Act → World → Prop} {a : Act} {w : World} {l' : List Oper} (k : Nat) (hm : P.follows .mixedOrders = true) (hB : (Region.lexTailB .any l'.toArray k && noDefers l'.toArray) = true) (hout : ¬ LetsOut Q)
    (h : wpQuiet P l'.toArray (fun w' => ∃ p : Regrown, w' = grow (redrawn w p.d) p.os) (fun a' => ∀ w', Below w.heap.size w w' → wpList P l'.toArray Q (l'.drop k) a' w') (l'.take k) a) : (Code.region id l'.toArray true).wpIn (Fence.wide.inRound l) n P Q a w := by
  simp only [Bool.and_eq_true] at hB
  have hB1 := hB.1
  simp only [Region.lexTailB, Bool.and_eq_true, decide_eq_true_eq] at hB1
  obtain ⟨⟨⟨⟨hsel, hn⟩, hs⟩, hc⟩, hlex⟩ := hB1
  have hn' : k < l'.length := by simpa using hn
  have htl : (l'.take k).length = k := by simp; omega
  have hdl : (l'.drop k).length = l'.toArray.size - k := by simp
  have inv0 : HeadInv .any l'.toArray k (Array.replicate l'.toArray.size false) :=
    ⟨by simp, fun j oj _ hl => (by rw [getD_replicate_false] at hl; cases hl), fun t _ ht => getD_in (by simpa using ht) (getD_replicate_false _ _)⟩
  have H := wpAnyC_lex (md := .any) (g := l'.toArray.size - k) hsel hs hc hn (l'.take k) 0 _ a (fun j hj => by
    have hj' : j < k := by rw [htl] at hj; exact hj
    simp [hj']) (by simpa using htl) inv0 (by rw [htl]; exact hlex) h
  refine wpIn_region_any hm (wpAny_round (noDefers_spec hB.2) hout _ _ _ _ ?_)
  have := wpAny_of_headC (C := fun w' => ∃ p : Regrown, w' = grow (redrawn w p.d) p.os) (Q' := Q) (g := l'.toArray.size - k) (fun listed a' w' ⟨p, hp⟩ hL => by
    have := wpAny_of_seq (md := .any) (Q' := Q) (l'.drop k) k listed a' w' (fun j => by simp [List.getElem?_drop]) (by rw [hdl]; exact hL.1) (hL.2 w' (hp ▸ below_regrown w p.d p.os))
    rwa [hdl] at this) _ _ _ _ ⟨⟨w.drawn + 1, #[]⟩, by rw [grow_empty]⟩ H
  have e : k + (l'.toArray.size - k) = l'.toArray.size := Nat.add_sub_of_le (Nat.le_of_lt hn)
  rw [htl, e] at this
  exact this
/-- Any region in a round's body, by the plain walk of all orders. -/
theorem wpIn_region_all {id : Nat} {Q : Exit → Act → World → Prop} {a : Act} {w : World} {l' : List Oper} (hm : P.follows .mixedOrders = true) (hB : noDefers l'.toArray = true) (hout : ¬ LetsOut Q)
    (h : wpAny P .any l'.toArray Q l'.toArray.size (Array.replicate l'.toArray.size false) a { w with drawn := w.drawn + 1 }) : (Code.region id l'.toArray true).wpIn (Fence.wide.inRound l) n P Q a w :=
  wpIn_region_any hm (wpAny_round (noDefers_spec hB) hout _ _ _ _ h)
end
end Go.Proofs.YtilbbnjfaoldoaaGreatDoor

namespace Go.Proofs.YtilbbnjfaoldoaaGreatDoor
open Go Go.RowKit

structure Rl where
  kind : Int
  vars : List Int
  low : Int
  high : Int
deriving DecidableEq, Repr, Inhabited
structure Prob where
  bounds : List Bnd
  rules : List Rl
deriving DecidableEq, Repr, Inhabited
structure Fact where
  var : Int
  elem : Int
  inn : Bool
  rule : Int
  why : List Int
deriving DecidableEq, Repr, Inhabited

def inB (n l h : Int) : Bool := decide (l ≤ n) && decide (n ≤ h)
def varsN (k : Int) : Int := if k = 6 then 1 else if k = 1 ∨ k = 2 then 2 else if k = 3 ∨ k = 4 ∨ k = 5 then 3 else 0
def iget (xs : List Int) (i : Nat) : Int := xs[i]?.getD 0
def ihas (xs : List Int) (x : Int) : Bool := xs.contains x
def varOk (r : Rl) (many : Int) (i : Nat) : Bool := inB (iget r.vars i) 0 (many - 1) && !ihas (r.vars.take i) (iget r.vars i)
def ruleOk (r : Rl) (many : Int) : Bool :=
  !(varsN r.kind == 0) && ((r.vars.length : Int) == varsN r.kind) && (List.range r.vars.length).all (varOk r many) &&
    (if r.kind == 6 then inB r.low 0 12 && inB r.high r.low 12 else (r.low == 0) && (r.high == 0))

def bget (b : List Bnd) (v : Nat) : Bnd := b[v]?.getD default
def bndOk (b : Bnd) : Bool := (sDiff b.can 4095 == 0) && (sDiff b.inn b.can == 0)
def probOk (p : Prob) : Bool :=
  inB p.bounds.length 1 8 && decide (p.rules.length ≤ 12) && p.bounds.all bndOk && p.rules.all fun r => ruleOk r p.bounds.length

def withB (b : List Bnd) (v e : Nat) (inn : Bool) : List Bnd :=
  if inn then b.set v ⟨sOr (bget b v).inn (bitN e), (bget b v).can⟩ else b.set v ⟨(bget b v).inn, sDiff (bget b v).can (bitN e)⟩
def ofB (b : List Bnd) (vars : List Int) : List Bnd := vars.map fun v => bget b v.toNat
def clashAt (b : Bnd) : Bool := !(sDiff b.inn b.can == 0)
def clashB (l : List Bnd) : Bool := l.any clashAt
def allowedAt (b : Bnd) (e : Nat) (is : Bool) : Bool := if is then b.can.testBit e else !b.inn.testBit e
def allowedB (xs : List Bnd) (e mask : Nat) : Bool := (List.range xs.length).all fun i => allowedAt (bget xs i) e (mask.testBit i)
def asksB (k : Int) (a b c : Bool) : Bool :=
  if k = 1 then !a || b else if k = 2 then !a || !b else if k = 3 then c == (a || b) else if k = 4 then c == (a && b) else c == (a && !b)
def popc (n : Nat) : Nat := (List.range 64).countP fun i => n.testBit i
def elemOk (l : List Bnd) (k : Int) (e : Nat) : Bool :=
  (List.range (2 ^ l.length)).any fun mask => allowedB l e mask && asksB k (mask.testBit 0) (mask.testBit 1) (mask.testBit 2)
def possL (l : List Bnd) (r : Rl) : Bool :=
  !clashB l && (if r.kind == 6 then decide ((popc (bget l 0).inn : Int) ≤ r.high) && decide (r.low ≤ popc (bget l 0).can) else (List.range 12).all (elemOk l r.kind))
def possB (b : List Bnd) (r : Rl) : Bool := possL (ofB b r.vars) r
def followsB (b : List Bnd) (r : Rl) (f : Fact) : Bool := !possB (withB b f.var.toNat f.elem.toNat (!f.inn)) r

/-- Bounds of 64 bits. -/
def U64s (b : List Bnd) : Prop := ∀ x ∈ b, U64 x.inn ∧ U64 x.can
theorem U64s.get {b : List Bnd} (h : U64s b) (v : Nat) : U64 (bget b v).inn ∧ U64 (bget b v).can := by
  unfold bget
  by_cases hv : v < b.length
  · rw [List.getElem?_eq_getElem hv]; exact h _ (List.getElem_mem hv)
  · rw [List.getElem?_eq_none (by omega)]; exact ⟨by show (0 : Nat) < _; decide, by show (0 : Nat) < _; decide⟩
theorem U64s.set {b : List Bnd} (h : U64s b) {v : Nat} {x : Bnd} (hx : U64 x.inn ∧ U64 x.can) : U64s (b.set v x) := by
  intro y hy
  rcases List.mem_or_eq_of_mem_set hy with h1 | h1
  · exact h y h1
  · exact h1 ▸ hx
theorem U64s.with {b : List Bnd} (h : U64s b) {v e : Nat} (he : e < 64) (inn : Bool) : U64s (withB b v e inn) := by
  unfold withB
  cases inn
  · exact h.set ⟨(h.get v).1, (h.get v).2.diff⟩
  · exact h.set ⟨(h.get v).1.or (U64.bit he), (h.get v).2⟩
theorem withB_length (b : List Bnd) (v e : Nat) (inn : Bool) : (withB b v e inn).length = b.length := by unfold withB; split <;> simp
theorem bget_set (b : List Bnd) (v : Nat) (x : Bnd) (i : Nat) (hv : v < b.length) : bget (b.set v x) i = if i = v then x else bget b i := by
  unfold bget
  rw [List.getElem?_set]
  by_cases h : v = i
  · subst h; simp [hv]
  · rw [if_neg h, if_neg (Ne.symm h)]

/-- Whatever of a slice of ints. -/
def Ints (w : World) (B : Nat) (v : Value) (xs : List Int) : Prop := Row w B 1 v xs.length (fun i => .int .i64 (iget xs i))
theorem Ints.below {w w' : World} {B : Nat} {v : Value} {xs : List Int} (h : Ints w B v xs) {B' : Nat} (hb : Below B' w w') (hB : B ≤ B') : Ints w' B v xs := Row.below h hb hB
theorem Ints.mono {w : World} {B : Nat} {v : Value} {xs : List Int} (h : Ints w B v xs) {B' : Nat} (hB : B ≤ B') : Ints w B' v xs := Row.mono h hB
theorem Row.congr {w : World} {B sz : Nat} {v : Value} {n : Nat} {c c' : Nat → Value} (h : Row w B sz v n c) (e : ∀ i, i < n * sz → c i = c' i) : Row w B sz v n c' := by
  obtain ⟨hn, a, cap, hv, hc, hm, hr⟩ := h
  refine ⟨hn, a, cap, hv, hc, hm, fun h0 => ?_⟩
  obtain ⟨b, off, ha, hbB, hcell⟩ := hr h0
  exact ⟨b, off, ha, hbB, fun i hi => by rw [← e i hi]; exact hcell i hi⟩
theorem iget_take {xs : List Int} {k i : Nat} (h : i < k) : iget (xs.take k) i = iget xs i := by unfold iget; rw [List.getElem?_take, if_pos h]
theorem Ints.take {w : World} {B : Nat} {a : Option Addr} {n cap : Nat} {xs : List Int} (h : Ints w B (.slice a n cap) xs) {k : Nat} (hk : k ≤ xs.length) : Ints w B (.slice a k cap) (xs.take k) := by
  have hn : n = xs.length := by obtain ⟨_, a', cap', hv, _⟩ := h; cases hv; rfl
  subst hn
  have e : (xs.take k).length = k := by simp; omega
  unfold Ints
  rw [e]
  exact (Row.take h hk).congr fun i hi => by rw [iget_take (by omega)]
/-- Cell number i of a list of bounds. -/
def bcellAt (xs : List Bnd) (i : Nat) : Value := if i % 2 = 0 then .int .u64 ((bget xs (i / 2)).inn : Nat) else .int .u64 ((bget xs (i / 2)).can : Nat)
theorem bcellAt_inn (xs : List Bnd) (k : Nat) : bcellAt xs (k * 2) = .int .u64 ((bget xs k).inn : Nat) := by
  unfold bcellAt; rw [if_pos (by omega), show k * 2 / 2 = k by omega]
theorem bcellAt_can (xs : List Bnd) (k : Nat) : bcellAt xs (k * 2 + 1) = .int .u64 ((bget xs k).can : Nat) := by
  unfold bcellAt; rw [if_neg (by omega), show (k * 2 + 1) / 2 = k by omega]
/-- A slice of bounds. -/
def Bnds (w : World) (B : Nat) (v : Value) (xs : List Bnd) : Prop := Row w B 2 v xs.length (bcellAt xs)
theorem Bnds.below {w w' : World} {B : Nat} {v : Value} {xs : List Bnd} (h : Bnds w B v xs) {B' : Nat} (hb : Below B' w w') (hB : B ≤ B') : Bnds w' B v xs := Row.below h hb hB
theorem Bnds.mono {w : World} {B : Nat} {v : Value} {xs : List Bnd} (h : Bnds w B v xs) {B' : Nat} (hB : B ≤ B') : Bnds w B' v xs := Row.mono h hB
def rget (rs : List Rl) (i : Nat) : Rl := rs[i]?.getD default
/-- A slice of rules. -/
def Rls (w : World) (B : Nat) (v : Value) (rs : List Rl) : Prop := ∃ c, Row w B 4 v rs.length c ∧ ∀ i, i < rs.length →
  c (i * 4) = .int .i64 (rget rs i).kind ∧ Ints w B (c (i * 4 + 1)) (rget rs i).vars ∧ c (i * 4 + 2) = .int .i64 (rget rs i).low ∧ c (i * 4 + 3) = .int .i64 (rget rs i).high
theorem Rls.below {w w' : World} {B : Nat} {v : Value} {xs : List Rl} (h : Rls w B v xs) {B' : Nat} (hb : Below B' w w') (hB : B ≤ B') : Rls w' B v xs :=
  let ⟨c, hr, hc⟩ := h
  ⟨c, hr.below hb hB, fun i hi => let ⟨h1, h2, h3, h4⟩ := hc i hi; ⟨h1, h2.below hb hB, h3, h4⟩⟩
theorem Rls.mono {w : World} {B : Nat} {v : Value} {xs : List Rl} (h : Rls w B v xs) {B' : Nat} (hB : B ≤ B') : Rls w B' v xs :=
  let ⟨c, hr, hc⟩ := h
  ⟨c, hr.mono hB, fun i hi => let ⟨h1, h2, h3, h4⟩ := hc i hi; ⟨h1, h2.mono hB, h3, h4⟩⟩
/-- Bounds as an array's cells. -/
def bCells (b : List Bnd) : List Value := (List.range (b.length * 2)).map (bcellAt b)
theorem bCells_length (b : List Bnd) : (bCells b).length = b.length * 2 := by simp [bCells]
theorem bCells_get (b : List Bnd) (i : Nat) (h : i < b.length * 2) : (bCells b)[i]? = some (bcellAt b i) := by simp [bCells, h]
theorem bCells_one (b : List Bnd) : ∀ v ∈ bCells b, v.oneCell' = true := by
  intro v hv
  simp only [bCells, List.mem_map] at hv
  obtain ⟨i, _, rfl⟩ := hv
  unfold bcellAt; split <;> rfl
theorem bCells_set_inn (b : List Bnd) (v : Nat) (y : Nat) (hv : v < b.length) : (bCells b).set (v * 2) (.int .u64 (y : Nat)) = bCells (b.set v ⟨y, (bget b v).can⟩) := by
  apply List.ext_getElem?
  intro i
  by_cases hi : i < b.length * 2
  · rw [bCells_get _ _ (by simpa using hi), List.getElem?_set, bCells_length, bCells_get _ _ hi]
    unfold bcellAt
    rw [bget_set _ _ _ _ hv]
    by_cases h : v * 2 = i
    · subst h; simp [show v * 2 < b.length * 2 by omega]
    · rw [if_neg h]
      by_cases h2 : i / 2 = v
      · rw [if_neg (by omega), if_neg (by omega), if_pos h2, h2]
      · rw [if_neg h2]
  · rw [List.getElem?_eq_none (by simp [bCells_length]; omega), List.getElem?_eq_none (by simp [bCells_length]; omega)]
theorem bCells_set_can (b : List Bnd) (v : Nat) (y : Nat) (hv : v < b.length) : (bCells b).set (v * 2 + 1) (.int .u64 (y : Nat)) = bCells (b.set v ⟨(bget b v).inn, y⟩) := by
  apply List.ext_getElem?
  intro i
  by_cases hi : i < b.length * 2
  · rw [bCells_get _ _ (by simpa using hi), List.getElem?_set, bCells_length, bCells_get _ _ hi]
    unfold bcellAt
    rw [bget_set _ _ _ _ hv]
    by_cases h : v * 2 + 1 = i
    · subst h; rw [if_pos rfl, if_pos (by omega), if_neg (by omega), if_pos (by omega)]
    · rw [if_neg h]
      by_cases h2 : i / 2 = v
      · rw [if_pos (by omega), if_pos (by omega), if_pos h2, h2]
      · rw [if_neg h2]
  · rw [List.getElem?_eq_none (by simp [bCells_length]; omega), List.getElem?_eq_none (by simp [bCells_length]; omega)]
end Go.Proofs.YtilbbnjfaoldoaaGreatDoor

namespace Go.Proofs.YtilbbnjfaoldoaaGreatDoor
open Go Go.RowKit
attribute [local go_sem] cell_grow u64_sAnd u64_sOr u64_sDiff sDiff_all zeqI zneI sAnd_bit_zero sAnd_bit_zeroN sAnd_bit_nonzero
set_option maxRecDepth 100000 in
set_option maxHeartbeats 400000 in
theorem idxB (v : Value) (n : Nat) (c : Nat → Value) (g : Nat) (caps : Array Value) (p : Nat → Bool) (w : World) {B : Nat} (hr0 : Row w B 2 v n c) (hB : B ≤ w.heap.size)
   (hg : ∀ args w, (callFunc g args).run Tryz.prog w = .ok (.enter g args) w)
   (hf : ∀ k, k < n → ∀ w', Below w.heap.size w w' → Gives Tryz.prog g (#[.agg #[c (k * 2), c (k * 2 + 1)]] ++ caps) w' (.bool (p k))) :
    Gives Tryz.prog 58 #[v, .func (.func g) #[] caps] w (.int .i64 (idxOf p n)) := by
  obtain ⟨_, a, cap, rfl, hc, _, hr⟩ := hr0.mono hB
  clear hr0 hB
  unfold Gives
  go_enter Tryz.func58, Tryz.ntmps58
  have HF := Lib.hid hf; clear hf
  go_wp2
  go_loopw [8] (fun i wr => ∃ k : Nat, k ≤ n ∧ i = .int .i64 k ∧ (∀ j, j < k → p j = false) ∧ Below w.heap.size w wr)
    (fun i _ => n - (intOf i).toNat)
  case atStart => exact ⟨0, Nat.zero_le _, rfl, fun j hj => absurd hj (Nat.not_lt_zero _), Below.refl _ _⟩
  case round =>
    obtain ⟨k, hk, rfl, hall, hb⟩ := hrel
    by_cases hlt : k < n
    · obtain ⟨b, off, rfl, hbs, hcell⟩ := hr (by omega)
      have c0 := rowCell (i := k * 2) hcell hb hbs _ (by omega) rfl rfl; have c1 : wr.cell? ⟨b, off + k * 2 + 1, none⟩ = some (c (k * 2 + 1)) := rowCell (i := k * 2 + 1) hcell hb hbs _ (by omega) rfl rfl
      have Hall := Lib.hid hall
      clear hcell hr hall
      go_wp2_with fail
      refine (HF.out k hlt _ hb).mono ?_
      rintro e w2 ⟨rfl, hb2⟩
      have hb3 : Below w.heap.size w w2 := hb.trans (hb2.mono hb.size)
      cases hp : p k
      · go_wp2
        go_roundw
        case rel => exact ⟨k + 1, by omega, by go_num, fun j hj => if h : j = k then h ▸ hp else Hall.out j (by omega), hb3⟩
        case measure => simp [intOf]; omega
      · go_wp2
        go_ret
        exact ⟨by rw [idxOf_some hlt Hall.out hp]; rfl, hb3⟩
    · go_wp2
      go_ret
      have : k = n := by omega
      subst this
      exact ⟨by rw [idxOf_none hall]; rfl, hb⟩
theorem hasB (v : Value) (n : Nat) (c : Nat → Value) (g : Nat) (caps : Array Value) (p : Nat → Bool) (w : World) {B : Nat} (hr : Row w B 2 v n c) (hB : B ≤ w.heap.size)
   (hg : ∀ args w, (callFunc g args).run Tryz.prog w = .ok (.enter g args) w)
   (hf : ∀ k, k < n → ∀ w', Below w.heap.size w w' → Gives Tryz.prog g (#[.agg #[c (k * 2), c (k * 2 + 1)]] ++ caps) w' (.bool (p k))) :
    Gives Tryz.prog 91 #[v, .func (.func g) #[] caps] w (.bool ((List.range n).any p)) := by
  unfold Gives
  go_enter Tryz.func91, Tryz.ntmps91
  have HF := Lib.hid hf; clear hf
  go_wp2_with fail
  refine (idxB v n c g caps p _ hr hB hg HF.out).mono ?_
  rintro e w2 ⟨rfl, hb2⟩
  go_wp2
  go_ret
  exact ⟨by rw [← idxOf_any]; rfl, hb2⟩
set_option maxRecDepth 100000 in
set_option maxHeartbeats 400000 in
theorem idxR (v : Value) (n : Nat) (c : Nat → Value) (g : Nat) (caps : Array Value) (p : Nat → Bool) (w : World) {B : Nat} (hr0 : Row w B 4 v n c) (hB : B ≤ w.heap.size)
   (hg : ∀ args w, (callFunc g args).run Tryz.prog w = .ok (.enter g args) w)
   (hf : ∀ k, k < n → ∀ w', Below w.heap.size w w' → Gives Tryz.prog g (#[.agg #[c (k * 4), c (k * 4 + 1), c (k * 4 + 2), c (k * 4 + 3)]] ++ caps) w' (.bool (p k))) :
    Gives Tryz.prog 46 #[v, .func (.func g) #[] caps] w (.int .i64 (idxOf p n)) := by
  obtain ⟨_, a, cap, rfl, hc, _, hr⟩ := hr0.mono hB
  clear hr0 hB
  unfold Gives
  go_enter Tryz.func46, Tryz.ntmps46
  have HF := Lib.hid hf; clear hf
  go_wp2
  go_loopw [8] (fun i wr => ∃ k : Nat, k ≤ n ∧ i = .int .i64 k ∧ (∀ j, j < k → p j = false) ∧ Below w.heap.size w wr)
    (fun i _ => n - (intOf i).toNat)
  case atStart => exact ⟨0, Nat.zero_le _, rfl, fun j hj => absurd hj (Nat.not_lt_zero _), Below.refl _ _⟩
  case round =>
    obtain ⟨k, hk, rfl, hall, hb⟩ := hrel
    by_cases hlt : k < n
    · obtain ⟨b, off, rfl, hbs, hcell⟩ := hr (by omega)
      have c0 := rowCell (i := k * 4) hcell hb hbs _ (by omega) rfl rfl; have c1 : wr.cell? ⟨b, off + k * 4 + 1, none⟩ = some (c (k * 4 + 1)) := rowCell (i := k * 4 + 1) hcell hb hbs _ (by omega) rfl rfl; have c2 : wr.cell? ⟨b, off + k * 4 + 2, none⟩ = some (c (k * 4 + 2)) := rowCell (i := k * 4 + 2) hcell hb hbs _ (by omega) rfl rfl; have c3 : wr.cell? ⟨b, off + k * 4 + 3, none⟩ = some (c (k * 4 + 3)) := rowCell (i := k * 4 + 3) hcell hb hbs _ (by omega) rfl rfl
      have Hall := Lib.hid hall
      clear hcell hr hall
      go_wp2_with fail
      refine (HF.out k hlt _ hb).mono ?_
      rintro e w2 ⟨rfl, hb2⟩
      have hb3 : Below w.heap.size w w2 := hb.trans (hb2.mono hb.size)
      cases hp : p k
      · go_wp2
        go_roundw
        case rel => exact ⟨k + 1, by omega, by go_num, fun j hj => if h : j = k then h ▸ hp else Hall.out j (by omega), hb3⟩
        case measure => simp [intOf]; omega
      · go_wp2
        go_ret
        exact ⟨by rw [idxOf_some hlt Hall.out hp]; rfl, hb3⟩
    · go_wp2
      go_ret
      have : k = n := by omega
      subst this
      exact ⟨by rw [idxOf_none hall]; rfl, hb⟩
theorem hasR (v : Value) (n : Nat) (c : Nat → Value) (g : Nat) (caps : Array Value) (p : Nat → Bool) (w : World) {B : Nat} (hr : Row w B 4 v n c) (hB : B ≤ w.heap.size)
   (hg : ∀ args w, (callFunc g args).run Tryz.prog w = .ok (.enter g args) w)
   (hf : ∀ k, k < n → ∀ w', Below w.heap.size w w' → Gives Tryz.prog g (#[.agg #[c (k * 4), c (k * 4 + 1), c (k * 4 + 2), c (k * 4 + 3)]] ++ caps) w' (.bool (p k))) :
    Gives Tryz.prog 27 #[v, .func (.func g) #[] caps] w (.bool ((List.range n).any p)) := by
  unfold Gives
  go_enter Tryz.func27, Tryz.ntmps27
  have HF := Lib.hid hf; clear hf
  go_wp2_with fail
  refine (idxR v n c g caps p _ hr hB hg HF.out).mono ?_
  rintro e w2 ⟨rfl, hb2⟩
  go_wp2
  go_ret
  exact ⟨by rw [← idxOf_any]; rfl, hb2⟩
set_option maxRecDepth 100000 in
set_option maxHeartbeats 400000 in
theorem idxU (v : Value) (n : Nat) (c : Nat → Value) (g : Nat) (caps : Array Value) (p : Nat → Bool) (w : World) {B : Nat} (hr0 : Row w B 1 v n c) (hB : B ≤ w.heap.size)
   (hg : ∀ args w, (callFunc g args).run Tryz.prog w = .ok (.enter g args) w)
   (hf : ∀ k, k < n → ∀ w', Below w.heap.size w w' → Gives Tryz.prog g (#[c k] ++ caps) w' (.bool (p k))) :
    Gives Tryz.prog 74 #[v, .func (.func g) #[] caps] w (.int .i64 (idxOf p n)) := by
  obtain ⟨_, a, cap, rfl, hc, _, hr⟩ := hr0.mono hB
  clear hr0 hB
  unfold Gives
  go_enter Tryz.func74, Tryz.ntmps74
  have HF := Lib.hid hf; clear hf
  go_wp2
  go_loopw [8] (fun i wr => ∃ k : Nat, k ≤ n ∧ i = .int .i64 k ∧ (∀ j, j < k → p j = false) ∧ Below w.heap.size w wr)
    (fun i _ => n - (intOf i).toNat)
  case atStart => exact ⟨0, Nat.zero_le _, rfl, fun j hj => absurd hj (Nat.not_lt_zero _), Below.refl _ _⟩
  case round =>
    obtain ⟨k, hk, rfl, hall, hb⟩ := hrel
    by_cases hlt : k < n
    · obtain ⟨b, off, rfl, hbs, hcell⟩ := hr (by omega)
      have c0 : wr.cell? ⟨b, off + k, none⟩ = some (c k) := rowCell (i := k) hcell hb hbs _ (by omega) rfl rfl
      have Hall := Lib.hid hall
      clear hcell hr hall
      go_wp2_with fail
      refine (HF.out k hlt _ hb).mono ?_
      rintro e w2 ⟨rfl, hb2⟩
      have hb3 : Below w.heap.size w w2 := hb.trans (hb2.mono hb.size)
      cases hp : p k
      · go_wp2
        go_roundw
        case rel => exact ⟨k + 1, by omega, by go_num, fun j hj => if h : j = k then h ▸ hp else Hall.out j (by omega), hb3⟩
        case measure => simp [intOf]; omega
      · go_wp2
        go_ret
        exact ⟨by rw [idxOf_some hlt Hall.out hp]; rfl, hb3⟩
    · go_wp2
      go_ret
      have : k = n := by omega
      subst this
      exact ⟨by rw [idxOf_none hall]; rfl, hb⟩
theorem hasU (v : Value) (n : Nat) (c : Nat → Value) (g : Nat) (caps : Array Value) (p : Nat → Bool) (w : World) {B : Nat} (hr : Row w B 1 v n c) (hB : B ≤ w.heap.size)
   (hg : ∀ args w, (callFunc g args).run Tryz.prog w = .ok (.enter g args) w)
   (hf : ∀ k, k < n → ∀ w', Below w.heap.size w w' → Gives Tryz.prog g (#[c k] ++ caps) w' (.bool (p k))) :
    Gives Tryz.prog 44 #[v, .func (.func g) #[] caps] w (.bool ((List.range n).any p)) := by
  unfold Gives
  go_enter Tryz.func44, Tryz.ntmps44
  have HF := Lib.hid hf; clear hf
  go_wp2_with fail
  refine (idxU v n c g caps p _ hr hB hg HF.out).mono ?_
  rintro e w2 ⟨rfl, hb2⟩
  go_wp2
  go_ret
  exact ⟨by rw [← idxOf_any]; rfl, hb2⟩

set_option maxHeartbeats 400000 in
theorem index_ints (v : Value) (xs : List Int) (x : Int) (w : World) {B : Nat} (hr : Ints w B v xs) :
    Calls Tryz.prog 101 #[v, .int .i64 x] w fun e w' => e = .returned (.int .i64 (idxOf (fun k => iget xs k == x) xs.length)) ∧ w' = w := by
  obtain ⟨_, a, cap, rfl, hc, _, hr⟩ := hr
  go_enter Tryz.func101, Tryz.ntmps101
  go_wp2
  go_loop [8] (fun i => ∃ k : Nat, k ≤ xs.length ∧ i = .int .i64 k ∧ (∀ j, j < k → (iget xs j == x) = false))
    (fun i => xs.length - (intOf i).toNat)
  case atStart => exact ⟨0, Nat.zero_le _, rfl, fun j hj => absurd hj (Nat.not_lt_zero _)⟩
  case round =>
    obtain ⟨k, hk, rfl, hall⟩ := hrel
    by_cases hlt : k < xs.length
    · obtain ⟨b, off, rfl, hbs, hcell⟩ := hr (by omega)
      have c0 : w.cell? ⟨b, off + k, none⟩ = some (.int .i64 (iget xs k)) := hcell k (by omega)
      have Hall := Lib.hid hall
      clear hcell hr hall
      cases hp : (iget xs k == x)
      · go_wp2
        go_round
        case rel => exact ⟨k + 1, by omega, by go_num, fun j hj => if h : j = k then h ▸ hp else Hall.out j (by omega)⟩
        case measure => simp [intOf]; omega
      · go_wp2
        go_ret
        exact ⟨by rw [idxOf_some hlt Hall.out hp]; rfl, rfl⟩
    · go_wp2
      go_ret
      have : k = xs.length := by omega
      subst this
      exact ⟨by rw [idxOf_none hall]; rfl, rfl⟩
theorem iget_contains (xs : List Int) (x : Int) : (List.range xs.length).any (fun k => iget xs k == x) = ihas xs x := by
  unfold ihas
  rw [Bool.eq_iff_iff, List.any_eq_true, List.contains_iff_mem, List.mem_iff_getElem]
  constructor
  · rintro ⟨k, hk, h⟩
    have hk' := List.mem_range.1 hk
    exact ⟨k, hk', by simpa [iget, hk'] using h⟩
  · rintro ⟨k, hk, h⟩
    exact ⟨k, List.mem_range.2 hk, by simp [iget, hk, h]⟩
set_option maxHeartbeats 400000 in
theorem contains_ints (v : Value) (xs : List Int) (x : Int) (w : World) {B : Nat} (hr : Ints w B v xs) :
    Calls Tryz.prog 84 #[v, .int .i64 x] w fun e w' => e = .returned (.bool (ihas xs x)) ∧ w' = w := by
  go_enter Tryz.func84, Tryz.ntmps84
  go_wp2_with (go_at_call 101; refine (index_ints _ _ _ _ hr).mono ?_; rintro e w' ⟨rfl, rfl⟩)
  go_ret
  exact ⟨by rw [← iget_contains, ← idxOf_any]; rfl, rfl⟩
end Go.Proofs.YtilbbnjfaoldoaaGreatDoor

namespace Go.Proofs.YtilbbnjfaoldoaaGreatDoor
open Go Go.RowKit Go.Shelf
theorem wide_fn (f : FuncId) : Fence.wide.fn f = True := rfl
theorem wide_depth : Fence.wide.depth = none := rfl
attribute [local go_sem] Oper.semAt_some wide_fn wide_depth

/-- math/bits' table lies in its variable. -/
def Tab (w : World) : Prop := TabAt 0 Lib.deBruijn64tab w
theorem Tab.below {w w' : World} {B : Nat} (h : Tab w) (hb : Below B w w') (hB : 0 < B) : Tab w' := fun j hj => (hb.cell (p := ⟨0, j, none⟩) hB).trans (h j hj)
def ctzN (m : Nat) : Nat := Lib.ctz 64 m
set_option maxRecDepth 100000 in
set_option maxHeartbeats 1000000 in
theorem tz64_core (x k idx : Nat) (w : World) (hx0 : ((x : Int) == 0) = false)
    (key : IntKind.u64.wrap (bits BinOp.and IntKind.u64 (x : Int) (IntKind.u64.wrap (-(x : Int))) * 285870213051353865) / 288230376151711744 = (idx : Int))
    (hi : idx < 64) (hk : k < 64) (hcell : w.cell? ⟨0, idx, none⟩ = some (.int .u8 k)) :
    Calls Tryz.prog 60 #[.int .u64 x] w fun e w' => e = .returned (.int .i64 k) ∧ w' = w := by
  go_enter Tryz.func60, Tryz.ntmps60
  go_wp2_with (simp only [key])
  go_ret
  exact ⟨rfl, rfl⟩
theorem tz64_any (x : Nat) (hx : U64 x) (hx0 : x ≠ 0) (w : World) (hT : Tab w) :
    Calls Tryz.prog 60 #[.int .u64 x] w fun e w' => e = .returned (.int .i64 (ctzN x : Nat)) ∧ w' = w := by
  obtain ⟨hlow, hk⟩ := Lib.lowest_bit 64 x hx0 hx
  obtain ⟨hi, htab⟩ := Lib.deBruijn64_at _ hk
  have hcell := hT _ hi
  rw [htab] at hcell
  exact tz64_core x _ _ w (by simpa using hx0) (by rw [tz64_key x _ hx hx0 hlow]) hi hk hcell

/-! the elements of a set, increasing -/
def elems (s : Nat) : List Nat := (List.range 64).filter s.testBit
def pred1 (m : Nat) : Nat := m - 1
theorem filter_first {p q : Nat → Bool} {n k : Nat} (hk : k < n) (hp : p k = true) (hlt : ∀ i, i < k → p i = false) (hq : ∀ i, q i = (p i && !decide (i = k))) :
    (List.range n).filter p = k :: (List.range n).filter q := by
  have e1 : List.range' 0 (k + (n - k)) = List.range' 0 k ++ List.range' k (n - k) := by rw [← List.range'_append_1]; simp
  have e2 : List.range' k (n - k) = k :: List.range' (k + 1) (n - k - 1) := by
    obtain ⟨d, hd⟩ : ∃ d, n - k = d + 1 := ⟨n - k - 1, by omega⟩
    rw [hd, List.range'_succ]; rfl
  have e : List.range n = List.range k ++ k :: List.range' (k + 1) (n - k - 1) := by
    rw [List.range_eq_range', List.range_eq_range', ← e2, ← e1, show k + (n - k) = n by omega]
  rw [e, List.filter_append, List.filter_append, List.filter_cons, List.filter_cons]
  have h1 : (List.range k).filter p = [] := List.filter_eq_nil_iff.2 fun i hi => by rw [hlt i (List.mem_range.1 hi)]; decide
  have h2 : (List.range k).filter q = [] := List.filter_eq_nil_iff.2 fun i hi => by rw [hq, hlt i (List.mem_range.1 hi)]; simp
  have h3 : (List.range' (k + 1) (n - k - 1)).filter p = (List.range' (k + 1) (n - k - 1)).filter q := List.filter_congr fun i hi => by
    have := (List.mem_range'_1.1 hi).1
    rw [hq, decide_eq_false (by omega)]; simp
  rw [h1, h2, h3, hq k, hp]
  simp
theorem elems_zero : elems 0 = [] := by unfold elems; exact List.filter_eq_nil_iff.2 fun i _ => by simp
theorem and_pred_testBit (m : Nat) (h0 : m ≠ 0) (hu : U64 m) (i : Nat) : (sAnd m (pred1 m)).testBit i = (m.testBit i && !decide (i = ctzN m)) ∧ (i < ctzN m → m.testBit i = false) ∧ m.testBit (ctzN m) = true := by
  have hc : ctzN m = Lib.ctzFrom 64 m := by unfold ctzN Lib.ctz; rw [if_neg h0]
  obtain ⟨q, hq, _⟩ := Lib.ctzFrom_spec 64 m (by omega) hu
  rw [← hc] at hq
  generalize ctzN m = k at hq
  have hp := Nat.two_pow_pos k
  have e1 : m = 2 ^ (k + 1) * q + 2 ^ k := by rw [hq, Nat.mul_add, Nat.mul_one, Nat.pow_succ]; congr 1; rw [Nat.mul_assoc]
  have e2 : pred1 m = 2 ^ (k + 1) * q + (2 ^ k - 1) := by unfold pred1; omega
  have b1 : ∀ j, m.testBit j = if j < k + 1 then (2 ^ k).testBit j else q.testBit (j - (k + 1)) := fun j => by rw [e1]; exact Nat.testBit_two_pow_mul_add _ (by rw [Nat.pow_succ]; omega) _
  have b2 : ∀ j, (pred1 m).testBit j = if j < k + 1 then (2 ^ k - 1).testBit j else q.testBit (j - (k + 1)) := fun j => by rw [e2]; exact Nat.testBit_two_pow_mul_add _ (by rw [Nat.pow_succ]; omega) _
  refine ⟨?_, fun hi => ?_, ?_⟩
  · rw [sAnd_testBit, b1, b2]
    by_cases hi : i < k + 1
    · rw [if_pos hi, if_pos hi, Nat.testBit_two_pow, Nat.testBit_two_pow_sub_one]
      by_cases hik : i = k
      · subst hik; simp
      · have : k ≠ i := fun h => hik h.symm
        simp [hik, this]
    · rw [if_neg hi, if_neg hi]
      have : i ≠ k := by omega
      simp [this]
  · rw [b1, if_pos (by omega), Nat.testBit_two_pow]; simp; omega
  · rw [b1, if_pos (by omega), Nat.testBit_two_pow]; simp
theorem ctzN_lt {m : Nat} (h0 : m ≠ 0) (hu : U64 m) : ctzN m < 64 := (Lib.lowest_bit 64 m h0 hu).2
theorem elems_step {m : Nat} (h0 : m ≠ 0) (hu : U64 m) : elems m = ctzN m :: elems (sAnd m (pred1 m)) :=
  filter_first (ctzN_lt h0 hu) ((and_pred_testBit m h0 hu 0).2.2) (fun i hi => (and_pred_testBit m h0 hu i).2.1 hi) (fun i => (and_pred_testBit m h0 hu i).1)
theorem sAnd_pred_lt {m : Nat} (h0 : m ≠ 0) : sAnd m (pred1 m) < m := Nat.lt_of_le_of_lt Nat.and_le_right (by unfold pred1; omega)
theorem pred1_u64 {m : Nat} (hu : U64 m) : U64 (pred1 m) := Nat.lt_of_le_of_lt (Nat.sub_le _ _) hu
theorem wrap_pred {m : Nat} (h0 : m ≠ 0) (hu : U64 m) : IntKind.u64.wrap ((m : Int) - 1) = ((pred1 m : Nat) : Int) := by
  have hu' : m < 18446744073709551616 := hu
  rw [IntKind.wrap_u64]; unfold pred1; omega
def cellN (w : World) (b : Nat) : Nat := match w.cell? ⟨b, 0, none⟩ with | some (.int _ n) => n.toNat | _ => 0
theorem cellN_eq {w : World} {b m : Nat} {k : IntKind} (h : w.cell? ⟨b, 0, none⟩ = some (.int k (m : Nat))) : cellN w b = m := by unfold cellN; rw [h]; simp

set_option maxRecDepth 100000 in
set_option maxHeartbeats 1000000 in
/-- The iterator, for every loop body. -/
theorem elements1_in (n l Bs s : Nat) (hs : U64 s) (J Jx : List Nat → World → Prop)
    (hset : ∀ pre W v, J pre W → J pre (W.setCell ⟨Bs, 0, none⟩ v)) (hT : ∀ pre W, J pre W → Tab W) (_hB0 : Bs ≠ 0)
    (hY : ∀ (pre : List Nat) (x : Nat) (rest : List Nat) (W : World), elems s = pre ++ x :: rest → J pre W → YieldAt Fence.wide (n - 1) Tryz.prog l #[.int .i64 (x : Nat)] W fun e W' =>
      (e = .returned (.bool true) ∧ J (pre ++ [x]) W' ∧ W'.cell? ⟨Bs, 0, none⟩ = W.cell? ⟨Bs, 0, none⟩ ∧ W'.frozen? ⟨Bs, 0, none⟩ = W.frozen? ⟨Bs, 0, none⟩) ∨ (e = .returned (.bool false) ∧ Jx (pre ++ [x]) W'))
    (W : World) (hc : W.cell? ⟨Bs, 0, none⟩ = some (.int .u64 (s : Nat))) (hf : W.frozen? ⟨Bs, 0, none⟩ = false) (h0 : J [] W) :
    CallsIn Fence.wide n Tryz.prog 98 #[.func (.yield l) #[] #[], .pointer (some ⟨Bs, 0, none⟩)] W fun e W' => (∃ v, e = .returned v) ∧ (J (elems s) W' ∨ ∃ pre, Jx pre W') := by
  refine callsIn_of_wp Tryz.func98 rfl trivial ?_ rfl
  simp only [Tryz.ntmps98, List.size_toArray, List.length_cons, List.length_nil, Nat.reduceAdd, Nat.reduceSub, Array.replicate_succ, Array.replicate_zero, List.push_toArray, List.append_toArray, List.nil_append, List.cons_append]
  have HY := Lib.hid hY; have HT := Lib.hid hT; have HSet := Lib.hid hset
  clear hY hT hset
  gi_wp2
  gi_loopw [3] (fun _ wr => ∃ (pre : List Nat) (m : Nat), elems s = pre ++ elems m ∧ U64 m ∧ wr.cell? ⟨Bs, 0, none⟩ = some (.int .u64 (m : Nat)) ∧ wr.frozen? ⟨Bs, 0, none⟩ = false ∧ J pre wr) (fun _ wr => cellN wr Bs)
  case atStart => exact ⟨[], s, rfl, hs, hc, hf, h0⟩
  case round =>
    obtain ⟨pre, m, he, hm, hcm, hfm, hj⟩ := hrel
    by_cases hm0 : m = 0
    · subst hm0
      have hm0 : ((0 : Nat) : Int) = 0 := rfl
      gi_wp2
      go_end0
      exact ⟨⟨_, rfl⟩, .inl (by rw [he, elems_zero, List.append_nil]; exact hj)⟩
    · have ne1 : ((m : Int) == 0) = false := by simpa using hm0
      have ne2 : ((m : Int) != 0) = true := by simpa using hm0
      have hT0 := HT.out _ _ hj
      have hst := elems_step hm0 hm
      obtain ⟨fn, tmps, assign, body, hy, hR⟩ := HY.out pre (ctzN m) _ wr (by rw [he, hst]) hj
      have HE := Lib.hid he; have HSt := Lib.hid hst; have HT0 := Lib.hid hT0; have HR := Lib.hid hR
      clear he hst hT0 hR
      gi_wp2_with (gi_at_call 60; refine (callsIn_wide.2 (tz64_any m hm hm0 _ HT0.out)).mono ?_; rintro e w' ⟨rfl, rfl⟩)
      refine HR.out.mono ?_
      rintro e W' (⟨rfl, hJ', hk1, hk2⟩ | ⟨rfl, hJx'⟩)
      · have c2 := hk1.trans hcm
        have f2 := hk2.trans hfm
        have wp := wrap_pred hm0 hm
        have ap := u64_sAnd hm (pred1_u64 hm)
        clear hk1 hk2
        gi_wp2
        have hset := World.cell?_setCell_same W' ⟨Bs, 0, none⟩ (.int .u64 ((sAnd m (pred1 m) : Nat) : Int)) c2
        refine ⟨⟨pre ++ [ctzN m], sAnd m (pred1 m), by rw [HE.out, HSt.out, List.append_assoc]; rfl, hm.and (pred1_u64 hm), hset, by rw [World.frozen?_setCell]; exact f2, HSet.out _ _ _ hJ'⟩, ?_⟩
        rw [cellN_eq hset, cellN_eq hcm]; exact sAnd_pred_lt hm0
      · gi_wp2
        exact bodyPost_ret (results_none rfl _ _ _) rfl ⟨⟨_, rfl⟩, .inr ⟨_, hJx'⟩⟩

/-! the loop -/
/-- What the loop's own book-keeping may turn: block Bs (the iterator's set), and objects that are no cells from block L on. -/
structure Touched (Bs L : Nat) (W W' : World) : Prop where
  os : W'.os = W.os
  tape : W'.tape = W.tape
  output : W'.output = W.output
  size : W.heap.size ≤ W'.heap.size
  same : ∀ k o, W.heap[k]? = some o → k ≠ Bs → (k < L ∨ o.isCells = true) → W'.heap[k]? = some o
/-- What a round's body must keep: the iterator's set, and objects that are no cells from block L on. -/
def Keep (Bs L : Nat) (W W' : World) : Prop := ∀ k o, W.heap[k]? = some o → (k = Bs ∨ (L ≤ k ∧ o.isCells = false)) → W'.heap[k]? = some o
theorem Keep.refl (Bs L : Nat) (W : World) : Keep Bs L W W := fun _ _ h _ => h
theorem Keep.trans {Bs L : Nat} {A B C : World} (h : Keep Bs L A B) (h' : Keep Bs L B C) : Keep Bs L A C := fun k o hk hc => h' k o (h k o hk hc) hc
theorem Keep.below {Bs L : Nat} {A B C : World} (h : Keep Bs L A B) (hb : Below B.heap.size B C) : Keep Bs L A C := fun k o hk hc => by
  have h1 := h k o hk hc
  exact (hb.block k (Array.getElem?_eq_some_iff.1 h1).1).trans h1
theorem Keep.alloc {Bs L : Nat} {A B : World} (h : Keep Bs L A B) (o : Obj) : Keep Bs L A (B.alloc o) := h.below (Below.new1 _ _)
theorem Keep.setCell {Bs L : Nat} {A B : World} (h : Keep Bs L A B) {p : Addr} (hp : p.block ≠ Bs) (v : Value) : Keep Bs L A (B.setCell p v) := fun k o hk hc => by
  have h1 := h k o hk hc
  by_cases hkp : k = p.block
  · subst hkp
    rcases hc with hc | hc
    · exact absurd hc hp
    · simp only [World.setCell, Array.getElem?_modify, if_true, h1, Option.map_some]
      cases o <;> first | rfl | (simp [Obj.isCells] at hc)
  · exact (Below.heap_setCell _ _ _ _ hkp).trans h1
theorem Keep.setCells {Bs L : Nat} {A : World} {b : Nat} (hb : b ≠ Bs) : ∀ (vs : List Value) (o : Nat) (B : World), Keep Bs L A B → Keep Bs L A (B.setCells b o vs)
  | [], _, _, h => h
  | v :: vs, o, _, h => Keep.setCells hb vs (o + 1) _ (h.setCell (p := ⟨b, o, none⟩) hb v)
def elemPost (Bs L : Nat) (I : List Nat → World → Prop) (Ix : Code → List Nat → World → Prop) (xs : List Nat) (W : World) : Exit → Act → World → Prop
  | .normal, _, W' => Keep Bs L W W' ∧ I xs W'
  | .ret, _, W' => Keep Bs L W W' ∧ Ix .ret xs W'
  | .exit id, _, W' => Keep Bs L W W' ∧ Ix (.exit id) xs W'
  | _, _, _ => False
theorem touched_putObj {Bs L l : Nat} {W : World} {o o' : Obj} (hl : W.heap[l]? = some o) (ho : o.isCells = false) (hL : L ≤ l) : Touched Bs L W (W.putObj l o') :=
  ⟨rfl, rfl, rfl, by simp, fun k q hk _ hc => by
    rw [World.putObj_heap_other (fun e => by subst e; rw [hl] at hk; cases hk; exact hc.elim (fun h => by omega) (fun h => by rw [ho] at h; cases h))]; exact hk⟩
theorem touched_alloc {Bs L : Nat} {W : World} (o : Obj) : Touched Bs L W (W.alloc o) :=
  ⟨rfl, rfl, rfl, by simp, fun k q hk _ _ => (Below.heap_alloc _ _ _ (Array.getElem?_eq_some_iff.1 hk).1).trans hk⟩
theorem touched_setCell {Bs L : Nat} {W : World} (v : Value) : Touched Bs L W (W.setCell ⟨Bs, 0, none⟩ v) :=
  ⟨rfl, rfl, rfl, by simp [World.setCell], fun k q hk hne _ => (Below.heap_setCell _ _ _ _ hne).trans hk⟩

set_option maxRecDepth 100000 in
set_option maxHeartbeats 1000000 in
/-- Block b holds one number of 64 bits. -/
def U64At (b : Nat) (W : World) : Prop := ∃ c, W.heap[b]? = some (.cells c 38 (0, 0))
theorem U64At.lt {b : Nat} {W : World} (h : U64At b W) : b < W.heap.size := let ⟨_, h⟩ := h; (Array.getElem?_eq_some_iff.1 h).1
theorem U64At.setCell {b : Nat} {W : World} (h : U64At b W) (p : Addr) (v : Value) : U64At b (W.setCell p v) := by
  obtain ⟨c, h⟩ := h
  by_cases hb : p.block = b
  · subst hb
    simp only [U64At, World.setCell, Array.getElem?_modify, if_true, h, Option.map_some]
    exact ⟨_, rfl⟩
  · exact ⟨c, (Below.heap_setCell _ _ _ _ (fun hh => hb hh.symm)).trans h⟩
theorem U64At.same {b : Nat} {W W' : World} (h : U64At b W) (e : ∀ o, W.heap[b]? = some o → W'.heap[b]? = some o) : U64At b W' := let ⟨c, h⟩ := h; ⟨c, e _ h⟩
theorem rangeElems {n : Nat} {g : Operand} {p : Tmp} {assign body : Code} {Q : Exit → Act → World → Prop} {a : Act} {w : World} (Bs s : Nat)
    (hg : a.eval g = .func (.func 98) #[] #[.pointer (some ⟨Bs, 0, none⟩)]) (hs : U64 s)
    (hc : w.heap[Bs]? = some (.cells #[.int .u64 (s : Nat)] 38 (0, 0))) (hB0 : Bs ≠ 0)
    (I : List Nat → World → Prop) (Ix : Code → List Nat → World → Prop)
    (hI : ∀ pre W W', I pre W → Touched Bs w.heap.size W W' → I pre W') (hIx : ∀ c pre W W', Ix c pre W → Touched Bs w.heap.size W W' → Ix c pre W')
    (hT : ∀ pre W, I pre W → Tab W) (h0 : I [] w)
    (hround : ∀ (l : Nat) (pre : List Nat) (x : Nat) (rest : List Nat) (W : World), elems s = pre ++ x :: rest → assign.wpIn (Fence.wide.inRound l) (n - 1 - 1) Tryz.prog
      (Exit.then (fun a' W' => W' = W ∧ ∀ W2, I pre W2 → U64At Bs W2 → w.heap.size ≤ W2.heap.size → body.wpIn (Fence.wide.inRound l) (n - 1 - 1) Tryz.prog (elemPost Bs w.heap.size I Ix (pre ++ [x]) W2) a' W2) (fun _ _ _ => False))
      { tmps := ((#[p] : Array Tmp).zip #[Value.int .i64 (x : Nat)]).foldl (fun t (p, v) => t.setIfInBounds p v) a.tmps, defers := [] } W)
    (hdone : ∀ (D : Nat) (W : World), w.heap.size ≤ D → I (elems s) W → W.heap[D]? = some (.deferred (some [])) → Q .normal { a with defers := { target := .collected D, args := #[] } :: a.defers } W)
    (hstop : ∀ (D : Nat) (c : Code) (pre : List Nat) (W : World), w.heap.size ≤ D → Ix c pre W → W.heap[D]? = some (.deferred (some [])) → c.wpIn Fence.wide n Tryz.prog Q { a with defers := { target := .collected D, args := #[] } :: a.defers } W) :
    (Code.rangeFunc g #[p] assign body).wpIn Fence.wide n Tryz.prog Q a w := by
  refine wpIn_rangeFunc ?_
  intro fn hfn
  have eg : ∀ args w, (callFunc 98 args).run Tryz.prog w = .ok (.enter 98 args) w := enters_of Tryz.func98 (by kernel_rfl) rfl
  obtain ⟨rec, hrec⟩ : ∃ rec : LoopState → Option Code → Loop, rec = fun st pe => { state := st, pending := pe, fn, tmps := a.tmps, params := #[p], assign, body, defers := w.heap.size } := ⟨_, rfl⟩
  have hBs : Bs < w.heap.size := (Array.getElem?_eq_some_iff.1 hc).1
  obtain ⟨W1, hW1⟩ : ∃ W1, (w.alloc (.deferred (some []))).alloc (.loop (rec .ready none)) = W1 := ⟨_, rfl⟩
  have hL1 : W1.heap[w.heap.size + 1]? = some (.loop (rec .ready none)) := by rw [← hW1]; exact (heap_new2 _ _ _).2
  have hK1 : W1.heap[w.heap.size]? = some (.deferred (some [])) := by rw [← hW1]; exact (heap_new2 _ _ _).1
  have hI1 : I [] W1 := by rw [← hW1]; exact hI _ _ _ (hI _ _ _ h0 (touched_alloc _)) (touched_alloc _)
  have hc1 : W1.heap[Bs]? = some (.cells #[.int .u64 (s : Nat)] 38 (0, 0)) := by rw [← hW1]; exact heap_old (heap_old hc)
  have hs1 : W1.heap.size = w.heap.size + 2 := by rw [← hW1]; simp
  refine ⟨w.heap.size + 1, [{ target := .collected w.heap.size, args := #[] }], W1, { target := .fn (.func 98) #[.pointer (some ⟨Bs, 0, none⟩)], args := #[.func (.yield (w.heap.size + 1)) #[] #[]] }, W1, 98,
    #[.func (.yield (w.heap.size + 1)) #[] #[]] ++ #[.pointer (some ⟨Bs, 0, none⟩)], W1, ?_, ?_, ?_, ?_, (fun h => by cases h), ?_⟩
  · rw [← hW1, hrec]; exact run_enterLoop_outer _ _ _ _ _
  · simp only [resolve, hg]
    simp [go_sem]
  · intro f' _; trivial
  · simp [invoke, go_sem, eg]
  · refine (elements1_in (n - 1) (w.heap.size + 1) Bs s hs
      (fun pre W => I pre W ∧ W.heap[w.heap.size + 1]? = some (.loop (rec .ready none)) ∧ W.heap[w.heap.size]? = some (.deferred (some [])) ∧ U64At Bs W)
      (fun pre W => ∃ c, Ix c pre W ∧ W.heap[w.heap.size + 1]? = some (.loop (rec .done (some c))) ∧ W.heap[w.heap.size]? = some (.deferred (some [])))
      (fun pre W v ⟨h1, h2, h3, h4⟩ => ⟨hI _ _ _ h1 (touched_setCell v), (Below.heap_setCell _ _ _ _ (by show w.heap.size + 1 ≠ Bs; omega)).trans h2, (Below.heap_setCell _ _ _ _ (by show w.heap.size ≠ Bs; omega)).trans h3, h4.setCell _ _⟩)
      (fun pre W h => hT _ _ h.1) hB0 ?_ W1 ?_ ?_ ⟨hI1, hL1, hK1, ⟨_, hc1⟩⟩).mono ?_
    · -- one round
      rintro pre x rest W he ⟨hi, hl, hk, hbs⟩
      have hlt : w.heap.size + 1 < W.heap.size := (Array.getElem?_eq_some_iff.1 hl).1
      have hy := run_yield (P := Tryz.prog) (args := #[.int .i64 (x : Nat)]) hl (by rw [hrec]; rfl)
      rw [hrec] at hy
      refine ⟨fn, _, assign, body, hy, roundIn_of_wpIn hfn ?_⟩
      refine wpIn_mono (hround _ pre x rest W he) ?_
      rintro e a1 W' hp0
      cases e
      case exit | goto | ret | panic | outgrown => exact hp0.elim
      obtain ⟨rfl, hbody⟩ := hp0
      refine ⟨_, run_beginRound hl (by rw [hrec]), ?_⟩
      have hl2 : (W'.putObj (w.heap.size + 1) (.loop { rec .ready none with state := .busy })).heap[w.heap.size + 1]? = some (.loop { rec .ready none with state := .busy }) := World.putObj_heap_same hlt
      have hk2 : (W'.putObj (w.heap.size + 1) (.loop { rec .ready none with state := .busy })).heap[w.heap.size]? = some (.deferred (some [])) := (World.putObj_heap_other (by omega)).trans hk
      refine wpIn_mono (hbody _ (hI _ _ _ hi (touched_putObj hl rfl (by omega))) (hbs.same fun o ho => (World.putObj_heap_other (by omega)).trans ho) (by simp; omega)) ?_
      have fin : ∀ (jump : Option Code) (W3 : World), Keep Bs w.heap.size (W'.putObj (w.heap.size + 1) (.loop { rec .ready none with state := .busy })) W3 →
          (Instr.endRound (w.heap.size + 1) jump).run Tryz.prog W3 = .ok (.bool jump.isNone) (W3.putObj (w.heap.size + 1) (.loop (rec (if jump.isNone then .ready else .done) jump))) ∧
          W3.heap[w.heap.size + 1]? = some (.loop { rec .ready none with state := .busy }) ∧
          (W3.putObj (w.heap.size + 1) (.loop (rec (if jump.isNone then .ready else .done) jump))).heap[w.heap.size + 1]? = some (.loop (rec (if jump.isNone then .ready else .done) jump)) ∧
          (W3.putObj (w.heap.size + 1) (.loop (rec (if jump.isNone then .ready else .done) jump))).heap[w.heap.size]? = some (.deferred (some [])) ∧
          (∀ o', W'.heap[Bs]? = some o' → (W3.putObj (w.heap.size + 1) (.loop (rec (if jump.isNone then .ready else .done) jump))).heap[Bs]? = some o') := fun jump W3 hk3 => by
        have hl3 := hk3 _ _ hl2 (.inr ⟨by omega, rfl⟩)
        have := run_endRound (P := Tryz.prog) jump hl3
        rw [hrec] at this ⊢
        refine ⟨this, by rw [hrec] at hl3; exact hl3, World.putObj_heap_same (Array.getElem?_eq_some_iff.1 hl3).1, (World.putObj_heap_other (by omega)).trans (hk3 _ _ hk2 (.inr ⟨Nat.le_refl _, rfl⟩)), fun o' ho' => ?_⟩
        exact (World.putObj_heap_other (by omega)).trans (hk3 _ _ ((World.putObj_heap_other (by omega)).trans ho') (.inl rfl))
      obtain ⟨ob, hob⟩ : ∃ o, W'.heap[Bs]? = some o := ⟨_, Array.getElem?_eq_getElem hbs.lt⟩
      rintro e a3 W3 hp
      cases e with
      | normal =>
        obtain ⟨hk3, hi3⟩ := hp
        obtain ⟨hr, hl3, hl4, hk4, hb4⟩ := fin none W3 hk3
        have hb5 := hb4 _ hob
        refine ⟨_, _, hr, .inl ⟨rfl, ⟨hI _ _ _ hi3 (touched_putObj hl3 rfl (by omega)), hl4, hk4, hbs.same hb4⟩, ?_, ?_⟩⟩
        · simp only [World.cell?, hb5, hob]
        · simp only [World.frozen?, hb5, hob]
      | ret =>
        obtain ⟨hk3, hi3⟩ := hp
        obtain ⟨hr, hl3, hl4, hk4, _⟩ := fin (some .ret) W3 hk3
        exact ⟨_, _, hr, .inr ⟨rfl, .ret, hIx _ _ _ _ hi3 (touched_putObj hl3 rfl (by omega)), hl4, hk4⟩⟩
      | exit id =>
        obtain ⟨hk3, hi3⟩ := hp
        obtain ⟨hr, hl3, hl4, hk4, _⟩ := fin (some (.exit id)) W3 hk3
        exact ⟨_, _, hr, .inr ⟨rfl, .exit id, hIx _ _ _ _ hi3 (touched_putObj hl3 rfl (by omega)), hl4, hk4⟩⟩
      | goto t => exact hp.elim
      | panic ch => exact hp.elim
      | outgrown => exact hp.elim
    · rw [cell_of_row W1 Bs 0 _ _ _ hc1]; rfl
    · simp [World.frozen?, hc1]
    · rintro e W2 ⟨⟨v, rfl⟩, (⟨hi, hl, hk, _⟩ | ⟨pre, c, hi, hl, hk⟩)⟩
      · exact ⟨none, _, by have := run_endLoop (P := Tryz.prog) hl (by rw [hrec]; simp); rw [hrec] at this; exact this, hdone _ _ (Nat.le_refl _) (hI _ _ _ hi (touched_putObj hl rfl (by omega))) ((World.putObj_heap_other (by omega)).trans hk)⟩
      · exact ⟨some c, _, by have := run_endLoop (P := Tryz.prog) hl (by rw [hrec]; simp); rw [hrec] at this; exact this, hstop _ c pre _ (Nat.le_refl _) (hIx _ _ _ _ hi (touched_putObj hl rfl (by omega))) ((World.putObj_heap_other (by omega)).trans hk)⟩
end Go.Proofs.YtilbbnjfaoldoaaGreatDoor

namespace Go.Proofs.YtilbbnjfaoldoaaGreatDoor
open Go Go.RowKit
def pop1 (x : Nat) : Nat := (x / 2 &&& 6148914691236517205) + (x &&& 6148914691236517205)
def pop2 (x : Nat) : Nat := (x / 4 &&& 3689348814741910323) + (x &&& 3689348814741910323)
def pop3 (x : Nat) : Nat := (x / 16 + x) &&& 1085102592571150095
def pop4 (x : Nat) : Nat := x + x / 256
def pop5 (x : Nat) : Nat := x + x / 65536
def pop6 (x : Nat) : Nat := x + x / 4294967296
theorem and_le_l (a b : Nat) : a &&& b ≤ a := Nat.and_le_left
theorem pop1_eq (x : Nat) (h : x < 4096) : IntKind.u64.wrap (bits BinOp.and IntKind.u64 ((x : Int) / 2) 6148914691236517205 + bits BinOp.and IntKind.u64 (x : Int) 6148914691236517205) = ((pop1 x : Nat) : Int) ∧ pop1 x < 8192 := by
  have e1 := u64_and_nat (x / 2) 6148914691236517205 (by omega) (by omega)
  have e2 := u64_and_nat x 6148914691236517205 (by omega) (by omega)
  have h1 := and_le_l (x / 2) 6148914691236517205
  have h2 := and_le_l x 6148914691236517205
  have e0 : ((x / 2 : Nat) : Int) = (x : Int) / 2 := by omega
  rw [e0] at e1
  have l1 : ((6148914691236517205 : Nat) : Int) = 6148914691236517205 := rfl
  rw [l1] at e1 e2
  rw [e1, e2, IntKind.wrap_u64]
  unfold pop1
  omega
theorem pop2_eq (x : Nat) (h : x < 8192) : IntKind.u64.wrap (bits BinOp.and IntKind.u64 ((x : Int) / 4) 3689348814741910323 + bits BinOp.and IntKind.u64 (x : Int) 3689348814741910323) = ((pop2 x : Nat) : Int) ∧ pop2 x < 16384 := by
  have e1 := u64_and_nat (x / 4) 3689348814741910323 (by omega) (by omega)
  have e2 := u64_and_nat x 3689348814741910323 (by omega) (by omega)
  have h1 := and_le_l (x / 4) 3689348814741910323
  have h2 := and_le_l x 3689348814741910323
  have e0 : ((x / 4 : Nat) : Int) = (x : Int) / 4 := by omega
  rw [e0] at e1
  have l1 : ((3689348814741910323 : Nat) : Int) = 3689348814741910323 := rfl
  rw [l1] at e1 e2
  rw [e1, e2, IntKind.wrap_u64]
  unfold pop2
  omega
theorem pop3_eq (x : Nat) (h : x < 16384) : bits BinOp.and IntKind.u64 (IntKind.u64.wrap ((x : Int) / 16 + (x : Int))) 1085102592571150095 = ((pop3 x : Nat) : Int) ∧ pop3 x < 32768 := by
  have e0 : IntKind.u64.wrap ((x : Int) / 16 + (x : Int)) = ((x / 16 + x : Nat) : Int) := by rw [IntKind.wrap_u64]; omega
  have e1 := u64_and_nat (x / 16 + x) 1085102592571150095 (by omega) (by omega)
  have h1 := and_le_l (x / 16 + x) 1085102592571150095
  have l1 : ((1085102592571150095 : Nat) : Int) = 1085102592571150095 := rfl
  rw [l1] at e1
  rw [e0, e1]
  unfold pop3
  exact ⟨rfl, by omega⟩
theorem pop4_eq (x : Nat) (h : x < 32768) : IntKind.u64.wrap ((x : Int) + (x : Int) / 256) = ((pop4 x : Nat) : Int) ∧ pop4 x < 65536 := by unfold pop4; rw [IntKind.wrap_u64]; omega
theorem pop5_eq (x : Nat) (h : x < 65536) : IntKind.u64.wrap ((x : Int) + (x : Int) / 65536) = ((pop5 x : Nat) : Int) ∧ pop5 x < 131072 := by unfold pop5; rw [IntKind.wrap_u64]; omega
theorem pop6_eq (x : Nat) (h : x < 131072) : IntKind.u64.wrap ((x : Int) + (x : Int) / 4294967296) = ((pop6 x : Nat) : Int) ∧ pop6 x < 262144 := by unfold pop6; rw [IntKind.wrap_u64]; omega
def popAll (x : Nat) : Nat := pop6 (pop5 (pop4 (pop3 (pop2 (pop1 x)))))
theorem pop7_eq (x : Nat) (h : x < 262144) : bits BinOp.and IntKind.i64 (x : Int) 127 = ((x &&& 127 : Nat) : Int) := by
  exact i64_and (by omega) (by decide)
theorem popc_12 (x : Nat) (h : x < 4096) : popc x = (List.range 12).countP fun i => x.testBit i := by
  unfold popc
  rw [show List.range 64 = List.range 12 ++ (List.range 52).map (12 + ·) from by decide, List.countP_append]
  have : ((List.range 52).map (12 + ·)).countP (fun i => x.testBit i) = 0 := by
    rw [List.countP_eq_zero]
    intro i hi
    obtain ⟨j, _, rfl⟩ := List.mem_map.1 hi
    rw [Nat.testBit_lt_two_pow (Nat.lt_of_lt_of_le h (show 2 ^ 12 ≤ 2 ^ (12 + j) from Nat.pow_le_pow_right (by decide) (by omega)))]
    decide
  omega
theorem popAll_at2 : ∀ a, a < 64 → ∀ b, b < 64 → popAll (a * 64 + b) &&& 127 = (List.range 12).countP fun i => (a * 64 + b).testBit i := by decide +kernel
theorem popAll_at (x : Nat) (h : x < 4096) : popAll x &&& 127 = (List.range 12).countP fun i => x.testBit i := by
  have := popAll_at2 (x / 64) (by omega) (x % 64) (by omega)
  rwa [show x / 64 * 64 + x % 64 = x by omega] at this
set_option maxRecDepth 100000 in
set_option maxHeartbeats 1000000 in
theorem ones_any (x : Nat) (hx : x < 4096) (w : World) :
    Calls Tryz.prog 77 #[.int .u64 x] w fun e w' => e = .returned (.int .i64 (popc x : Nat)) ∧ w' = w := by
  obtain ⟨a1, b1⟩ := pop1_eq x hx
  obtain ⟨a2, b2⟩ := pop2_eq _ b1
  obtain ⟨a3, b3⟩ := pop3_eq _ b2
  obtain ⟨a4, b4⟩ := pop4_eq _ b3
  obtain ⟨a5, b5⟩ := pop5_eq _ b4
  obtain ⟨a6, b6⟩ := pop6_eq _ b5
  have a7 := pop7_eq _ b6
  have e := popAll_at x hx
  rw [← popc_12 x hx] at e
  unfold popAll at e
  rw [e] at a7
  clear e b1 b2 b3 b4 b5
  go_enter Tryz.func77, Tryz.ntmps77
  go_wp2
  go_ret
  exact ⟨rfl, rfl⟩
end Go.Proofs.YtilbbnjfaoldoaaGreatDoor

namespace Go.Proofs.YtilbbnjfaoldoaaGreatDoor
open Go Go.RowKit
attribute [local go_sem] cell_grow u64_sAnd u64_sOr u64_sDiff sDiff_all zeqI zneI sAnd_bit_zero sAnd_bit_zeroN sAnd_bit_nonzero

set_option maxHeartbeats 400000 in
theorem within_any (n l h : Int) (w : World) :
    Calls Tryz.prog 32 #[.int .i64 n, .int .i64 l, .int .i64 h] w fun e w' => e = .returned (.bool (inB n l h)) ∧ w' = w := by
  go_enter Tryz.func32, Tryz.ntmps32
  by_cases h1 : l ≤ n
  all_goals by_cases h2 : n ≤ h
  all_goals go_wp2; go_ret
  all_goals exact ⟨by simp [inB, *], rfl⟩
theorem wrap_bit (e : Nat) (h : e < 64) : IntKind.u64.wrap (2 ^ e) = ((bitN e : Nat) : Int) := by
  have hb : U64 (bitN e) := U64.bit h
  have : (2 : Int) ^ e = ((bitN e : Nat) : Int) := by unfold bitN; simp
  rw [this, IntKind.wrap_u64]
  have hb' : bitN e < 18446744073709551616 := hb
  omega
set_option maxHeartbeats 400000 in
theorem one_any (e : Nat) (w : World) (h1 : e < 64) :
    Calls Tryz.prog 85 #[.int .i64 e] w fun r w' => r = .returned (.int .u64 ((bitN e : Nat) : Int)) ∧ w' = w := by
  have hw := wrap_bit e h1
  go_enter Tryz.func85, Tryz.ntmps85
  go_wp2
  go_ret
  exact ⟨rfl, rfl⟩
set_option maxHeartbeats 400000 in
theorem vars_any (k : Int) (w : World) :
    Calls Tryz.prog 83 #[.int .i64 k] w fun e w' => e = .returned (.int .i64 (varsN k)) ∧ w' = w := by
  go_enter Tryz.func83, Tryz.ntmps83
  by_cases h6 : k = 6
  · subst h6; go_wp2; go_ret; exact ⟨rfl, rfl⟩
  by_cases h1 : k = 1
  · subst h1; go_wp2; go_ret; exact ⟨rfl, rfl⟩
  by_cases h2 : k = 2
  · subst h2; go_wp2; go_ret; exact ⟨rfl, rfl⟩
  by_cases h3 : k = 3
  · subst h3; go_wp2; go_ret; exact ⟨rfl, rfl⟩
  by_cases h4 : k = 4
  · subst h4; go_wp2; go_ret; exact ⟨rfl, rfl⟩
  by_cases h5 : k = 5
  · subst h5; go_wp2; go_ret; exact ⟨rfl, rfl⟩
  have e : varsN k = 0 := by simp [varsN, *]
  have E := Lib.hid e; clear e
  go_wp2; go_ret; exact ⟨by rw [E.out]; rfl, rfl⟩

theorem ruleOk_no0 {r : Rl} {many : Int} (h : (varsN r.kind == 0) = true) : ruleOk r many = false := by simp [ruleOk, h]
theorem ruleOk_no1 {r : Rl} {many : Int} (h : ((r.vars.length : Int) == varsN r.kind) = false) : ruleOk r many = false := by simp [ruleOk, h]
theorem ruleOk_no2 {r : Rl} {many : Int} {k : Nat} (hk : k < r.vars.length) (h : varOk r many k = false) : ruleOk r many = false := by
  have : (List.range r.vars.length).all (varOk r many) = false := by
    rw [Bool.eq_false_iff]; intro hc; rw [List.all_eq_true] at hc
    have := hc k (List.mem_range.2 hk); rw [h] at this; cases this
  simp [ruleOk, this]
theorem ruleOk_yes {r : Rl} {many : Int} (h0 : (varsN r.kind == 0) = false) (h1 : ((r.vars.length : Int) == varsN r.kind) = true) (h2 : ∀ j, j < r.vars.length → varOk r many j = true) :
    ruleOk r many = if r.kind == 6 then inB r.low 0 12 && inB r.high r.low 12 else (r.low == 0) && (r.high == 0) := by
  have : (List.range r.vars.length).all (varOk r many) = true := by simpa using h2
  simp [ruleOk, h0, h1, this]
set_option maxRecDepth 100000 in
set_option maxHeartbeats 1000000 in
theorem rule_any (r : Rl) (many : Int) (vv : Value) (w : World) {B : Nat} (hv0 : Ints w B vv r.vars) (hB : B ≤ w.heap.size) (hm0 : 0 ≤ many) (hm : many ≤ 100) :
    Gives Tryz.prog 56 #[.agg #[.int .i64 r.kind, vv, .int .i64 r.low, .int .i64 r.high], .int .i64 many] w (.bool (ruleOk r many)) := by
  have hv := hv0.mono hB
  have HV := Lib.hid hv
  clear hv0 hB
  obtain ⟨_, a, cap, rfl, hc, _, hr⟩ := hv
  unfold Gives
  have hb0 : Below w.heap.size w (w.alloc (.cells #[.int .i64 r.kind, .slice a r.vars.length cap, .int .i64 r.low, .int .i64 r.high] 62)) := (Below.refl _ _).alloc (Nat.le_refl _) _
  go_enter Tryz.func56, Tryz.ntmps56
  cases h0 : (varsN r.kind == 0)
  case true =>
    go_wp2_with (go_at_call 83; refine (vars_any _ _).mono ?_; rintro e w' ⟨rfl, rfl⟩)
    go_ret
    exact ⟨by rw [ruleOk_no0 h0]; rfl, hb0⟩
  case false =>
    cases h1 : ((r.vars.length : Int) == varsN r.kind)
    case false =>
      go_wp2_with (go_at_call 83; refine (vars_any _ _).mono ?_; rintro e w' ⟨rfl, rfl⟩)
      go_ret
      exact ⟨by rw [ruleOk_no1 h1]; rfl, hb0⟩
    case true =>
      have h1n : ((r.vars.length : Int) != varsN r.kind) = false := by simp only [bne, h1]; rfl
      go_wp2_with (go_at_call 83; refine (vars_any _ _).mono ?_; rintro e w' ⟨rfl, rfl⟩)
      go_loop [23] (fun i => ∃ k : Nat, k ≤ r.vars.length ∧ i = .int .i64 k ∧ (∀ j, j < k → varOk r many j = true)) (fun i => r.vars.length - (intOf i).toNat)
      case atStart => exact ⟨0, Nat.zero_le _, rfl, fun j hj => absurd hj (Nat.not_lt_zero _)⟩
      case round =>
        obtain ⟨k, hk, rfl, hall⟩ := hrel
        have Hall := Lib.hid hall; have Hb0 := Lib.hid hb0; clear hall
        by_cases hlt : k < r.vars.length
        · obtain ⟨b, off, rfl, hbs, hcell⟩ := hr (by omega)
          have c0 : (w.alloc (.cells #[.int .i64 r.kind, .slice (some ⟨b, off, none⟩) r.vars.length cap, .int .i64 r.low, .int .i64 r.high] 62)).cell? ⟨b, off + k, none⟩ = some (.int .i64 (iget r.vars k)) := rowCell hcell hb0 hbs k (by omega) rfl rfl
          have ht : Ints (w.alloc (.cells #[.int .i64 r.kind, .slice (some ⟨b, off, none⟩) r.vars.length cap, .int .i64 r.low, .int .i64 r.high] 62)) (w.heap.size + 1) (.slice (some ⟨b, off, none⟩) k cap) (r.vars.take k) :=
            ((HV.out.take (by omega)).below hb0 (Nat.le_refl _)).mono (by omega)
          have HT := Lib.hid ht
          clear hcell hr ht
          cases hin : inB (iget r.vars k) 0 (many - 1)
          · go_wp2_with (go_at_call 32; refine (within_any _ _ _ _).mono ?_; rintro e w' ⟨rfl, rfl⟩)
            go_ret
            exact ⟨by rw [ruleOk_no2 hlt (by simp [varOk, hin])]; rfl, Hb0.out⟩
          · cases hco : ihas (r.vars.take k) (iget r.vars k)
            · go_wp2_with (first | (go_at_call 32; refine (within_any _ _ _ _).mono ?_; rintro e w' ⟨rfl, rfl⟩) | (go_at_call 84; refine (contains_ints _ _ _ _ HT.out).mono ?_; rintro e w' ⟨rfl, rfl⟩))
              go_round
              case rel => exact ⟨k + 1, by omega, by go_num, fun j hj => if h : j = k then by subst h; simp only [varOk, hin, hco]; rfl else Hall.out j (by omega)⟩
              case measure => simp [intOf]; omega
            · go_wp2_with (first | (go_at_call 32; refine (within_any _ _ _ _).mono ?_; rintro e w' ⟨rfl, rfl⟩) | (go_at_call 84; refine (contains_ints _ _ _ _ HT.out).mono ?_; rintro e w' ⟨rfl, rfl⟩))
              go_ret
              exact ⟨by rw [ruleOk_no2 hlt (by simp only [varOk, hin, hco]; rfl)]; rfl, Hb0.out⟩
        · have hk2 : k = r.vars.length := by omega
          subst hk2
          have HR := Lib.hid (ruleOk_yes h0 h1 Hall.out)
          clear hr
          cases h6 : (r.kind == 6)
          · cases hl : (r.low == 0)
            all_goals
              go_wp2
              go_ret
              exact ⟨by rw [HR.out, h6, hl]; rfl, Hb0.out⟩
          · cases hl : inB r.low 0 12
            all_goals
              go_wp2_with (go_at_call 32; refine (within_any _ _ _ _).mono ?_; rintro e w' ⟨rfl, rfl⟩)
              go_ret
              exact ⟨by rw [HR.out, h6, hl]; rfl, Hb0.out⟩
end Go.Proofs.YtilbbnjfaoldoaaGreatDoor

namespace Go.Proofs.YtilbbnjfaoldoaaGreatDoor
open Go Go.RowKit
attribute [local go_sem] cell_grow u64_sAnd u64_sOr u64_sDiff sDiff_all zeqI zneI sAnd_bit_zero sAnd_bit_zeroN sAnd_bit_nonzero

set_option maxRecDepth 100000 in
set_option maxHeartbeats 400000 in
theorem check1_any (r : Rl) (vv : Value) (bp : Nat) (a : Option Addr) (nb cap : Nat) (w : World) {B : Nat} (hv : Ints w B vv r.vars) (hB : B ≤ w.heap.size) (hm : nb ≤ 100) (hp : w.cell? ⟨bp, 0, none⟩ = some (.slice a nb cap)) (hbp : bp < w.heap.size) :
    Gives Tryz.prog 55 #[.agg #[.int .i64 r.kind, vv, .int .i64 r.low, .int .i64 r.high], .pointer (some ⟨bp, 0, none⟩)] w (.bool (!ruleOk r nb)) := by
  unfold Gives
  have hb0 : Below w.heap.size w (w.alloc (.cells #[.int .i64 r.kind, vv, .int .i64 r.low, .int .i64 r.high] 62)) := (Below.refl _ _).alloc (Nat.le_refl _) _
  have H := Lib.hid hv
  have hsl : vv = .slice (match vv with | .slice a _ _ => a | _ => none) r.vars.length (match vv with | .slice _ _ c => c | _ => 0) := by
    obtain ⟨_, a, cap, rfl, _⟩ := hv; rfl
  obtain ⟨va, vc, rfl⟩ : ∃ a c, vv = .slice a r.vars.length c := ⟨_, _, hsl⟩
  clear hsl hv
  go_enter Tryz.func55, Tryz.ntmps55
  go_wp2_with fail
  have HB0 := Lib.hid hb0; clear hb0
  refine (rule_any r nb _ _ (H.out.below HB0.out hB) (by simp; omega) (by omega) (by omega)).mono ?_
  rintro e w2 ⟨rfl, hb2⟩
  go_wp2
  go_ret
  exact ⟨rfl, HB0.out.trans (hb2.mono (by simp))⟩

theorem probOk_no0 {p : Prob} (h : inB p.bounds.length 1 8 = false) : probOk p = false := by simp [probOk, h]
theorem probOk_no1 {p : Prob} (h : decide (p.rules.length ≤ 12) = false) : probOk p = false := by simp only [probOk, h]; simp
theorem probOk_no2 {p : Prob} {k : Nat} (hk : k < p.bounds.length) (h : bndOk (bget p.bounds k) = false) : probOk p = false := by
  have : p.bounds.all bndOk = false := by
    rw [Bool.eq_false_iff]; intro hc; rw [List.all_eq_true] at hc
    have := hc p.bounds[k] (List.getElem_mem hk)
    rw [show p.bounds[k] = bget p.bounds k by simp [bget, hk], h] at this; cases this
  simp [probOk, this]
theorem probOk_yes {p : Prob} (h0 : inB p.bounds.length 1 8 = true) (h1 : decide (p.rules.length ≤ 12) = true) (h2 : ∀ j, j < p.bounds.length → bndOk (bget p.bounds j) = true) :
    probOk p = !(List.range p.rules.length).any fun i => !ruleOk (rget p.rules i) p.bounds.length := by
  have e2 : p.bounds.all bndOk = true := by
    rw [List.all_eq_true]; intro b hb
    obtain ⟨k, hk, rfl⟩ := List.mem_iff_getElem.1 hb
    have := h2 k hk
    rwa [show bget p.bounds k = p.bounds[k] by simp [bget, hk]] at this
  have e3 : (p.rules.all fun r => ruleOk r p.bounds.length) = !(List.range p.rules.length).any fun i => !ruleOk (rget p.rules i) p.bounds.length := by
    rw [Bool.eq_iff_iff]
    simp only [List.all_eq_true, Bool.not_eq_true', Bool.eq_false_iff, ne_eq, List.any_eq_true, List.mem_range, not_exists, not_and]
    constructor
    · intro h i hi hc
      have := h p.rules[i] (List.getElem_mem hi)
      rw [show p.rules[i] = rget p.rules i by simp [rget, hi]] at this
      exact hc this
    · intro h r hr
      obtain ⟨k, hk, rfl⟩ := List.mem_iff_getElem.1 hr
      have := h k hk
      rw [show rget p.rules k = p.rules[k] by simp [rget, hk]] at this
      simpa using this
  simp only [probOk, h0, h1, e2, e3, Bool.true_and]
def errOf (ok : Bool) : Int := if ok then 0 else 2
set_option maxRecDepth 100000 in
set_option maxHeartbeats 1000000 in
theorem check_any (p : Prob) (bv rv : Value) (w : World) {B : Nat} (hbv : Bnds w B bv p.bounds) (hrv : Rls w B rv p.rules) (hB : B ≤ w.heap.size) (hu : U64s p.bounds) :
    Gives Tryz.prog 31 #[.agg #[bv, rv]] w (.int .i64 (errOf (probOk p))) := by
  unfold Gives
  have hbv := hbv.mono hB
  have hrv := hrv.mono hB
  have HRV := Lib.hid hrv
  have HU := Lib.hid hu
  obtain ⟨_, ba, bc, rfl, _, _, hbr⟩ := hbv
  obtain ⟨ra, rc, rfl⟩ : ∃ a c, rv = .slice a p.rules.length c := by obtain ⟨c, ⟨_, a, cap, rfl, _⟩, _⟩ := hrv; exact ⟨_, _, rfl⟩
  have hb0 : Below w.heap.size w (w.alloc (.cells #[.slice ba p.bounds.length bc, .slice ra p.rules.length rc] 25)) := (Below.refl _ _).alloc (Nat.le_refl _) _
  clear hrv hu hB
  go_enter Tryz.func31, Tryz.ntmps31
  cases h0 : inB p.bounds.length 1 8
  case false =>
    go_wp2_with (go_at_call 32; refine (within_any _ _ _ _).mono ?_; rintro e w' ⟨rfl, rfl⟩)
    go_ret
    exact ⟨by rw [probOk_no0 h0]; rfl, hb0⟩
  case true =>
    cases h1 : decide (p.rules.length ≤ 12)
    case false =>
      have h1' : ¬ p.rules.length ≤ 12 := of_decide_eq_false h1
      go_wp2_with (go_at_call 32; refine (within_any _ _ _ _).mono ?_; rintro e w' ⟨rfl, rfl⟩)
      go_ret
      exact ⟨by rw [probOk_no1 h1]; rfl, hb0⟩
    case true =>
      have h1' : p.rules.length ≤ 12 := of_decide_eq_true h1
      have hB8 : p.bounds.length ≤ 8 := by simp [inB] at h0; omega
      have h1d : decide ((12 : Int) < (p.rules.length : Int)) = false := by rw [decide_eq_false_iff_not]; omega
      have HB0 := Lib.hid hb0; clear hb0
      go_wp2_with (go_at_call 32; refine (within_any _ _ _ _).mono ?_; rintro e w' ⟨rfl, rfl⟩)
      obtain ⟨W, hW⟩ : ∃ W, W = w.alloc (.cells #[.slice ba p.bounds.length bc, .slice ra p.rules.length rc] 25) := ⟨_, rfl⟩
      have hp0 : W.cell? ⟨w.heap.size, 0, none⟩ = some (.slice ba p.bounds.length bc) := by rw [hW]; simp [go_sem]
      have hp1 : W.cell? ⟨w.heap.size, 1, none⟩ = some (.slice ra p.rules.length rc) := by rw [hW]; simp [go_sem]
      have hsz : W.heap.size = w.heap.size + 1 := by rw [hW]; simp
      rw [← hW] at HB0 ⊢
      clear hW
      have HP := Lib.hid hp0; have HQ := Lib.hid hp1; have HS := Lib.hid hsz; clear hp0 hp1 hsz
      go_loopw [19] (fun i wr => ∃ k : Nat, k ≤ p.bounds.length ∧ i = .int .i64 k ∧ (∀ j, j < k → bndOk (bget p.bounds j) = true) ∧ Below W.heap.size W wr) (fun i _ => p.bounds.length - (intOf i).toNat)
      case atStart => exact ⟨0, Nat.zero_le _, rfl, fun j hj => absurd hj (Nat.not_lt_zero _), Below.refl _ _⟩
      case round =>
        obtain ⟨k, hk, rfl, hall, hb⟩ := hrel
        have Hall := Lib.hid hall; clear hall
        have hbb := HB0.out.trans (hb.mono (by rw [HS.out]; omega))
        have hws : W.heap.size ≤ wr.heap.size := hb.size
        by_cases hlt : k < p.bounds.length
        · obtain ⟨b, off, rfl, hbs, hcell⟩ := hbr (by omega)
          have c0 : wr.cell? ⟨b, off + k * 2, none⟩ = some (.int .u64 ((bget p.bounds k).inn : Nat)) := by rw [← bcellAt_inn]; exact rowCell hcell hbb hbs _ (by omega) rfl rfl
          have c1 : wr.cell? ⟨b, off + k * 2 + 1, none⟩ = some (.int .u64 ((bget p.bounds k).can : Nat)) := by rw [← bcellAt_can]; exact rowCell hcell hbb hbs _ (by omega) rfl rfl
          have hu1 := (HU.out.get k).1; have hu2 := (HU.out.get k).2
          have HB := Lib.hid hb; have HBB := Lib.hid hbb
          clear hcell hbr hb hbb
          cases hA : (sDiff (bget p.bounds k).can 4095 == 0)
          case false =>
            go_wp2
            go_ret
            exact ⟨by rw [probOk_no2 hlt (by simp [bndOk, hA])]; rfl, HBB.out.alloc HBB.out.size _⟩
          case true =>
            cases hC : (sDiff (bget p.bounds k).inn (bget p.bounds k).can == 0)
            case false =>
              go_wp2
              go_ret
              exact ⟨by rw [probOk_no2 hlt (by simp [bndOk, hC])]; rfl, HBB.out.alloc HBB.out.size _⟩
            case true =>
              go_wp2
              go_roundw
              case rel => exact ⟨k + 1, by omega, by go_num, fun j hj => if h : j = k then by subst h; simp only [bndOk, hA, hC]; rfl else Hall.out j (by omega), HB.out.alloc HB.out.size _⟩
              case measure => simp [intOf]; omega
        · have hk2 : k = p.bounds.length := by omega
          subst hk2
          have HR := Lib.hid (probOk_yes h0 h1 Hall.out)
          have q0 : wr.cell? ⟨w.heap.size, 0, none⟩ = some (.slice ba p.bounds.length bc) := (hb.cell (p := ⟨w.heap.size, 0, none⟩) (by rw [HS.out]; exact Nat.lt_succ_self _)).trans HP.out
          have q1 : wr.cell? ⟨w.heap.size, 1, none⟩ = some (.slice ra p.rules.length rc) := (hb.cell (p := ⟨w.heap.size, 1, none⟩) (by rw [HS.out]; exact Nat.lt_succ_self _)).trans HQ.out
          have hrls := HRV.out.below hbb (Nat.le_refl _)
          obtain ⟨c, hrow, hc⟩ := hrls
          have HRow := Lib.hid hrow; have HC := Lib.hid hc; have HBB := Lib.hid hbb; have HB := Lib.hid hb; have Q0 := Lib.hid q0
          clear hrow hc hbr hbb hb
          go_wp2_with fail
          refine (hasR _ _ c 55 #[.pointer (some ⟨w.heap.size, 0, none⟩)] (fun i => !ruleOk (rget p.rules i) p.bounds.length) _ HRow.out (by have := HBB.out.size; omega) (enters_of Tryz.func55 (by kernel_rfl) rfl) ?_).mono ?_
          · intro i hi w' hb'
            obtain ⟨e1, e2, e3, e4⟩ := HC.out i hi
            rw [e1, e3, e4]
            exact check1_any _ _ _ _ _ _ _ (e2.below hb' (by have := HBB.out.size; omega)) (by have := HBB.out.size; have := hb'.size; omega) (by omega) ((hb'.cell (p := ⟨w.heap.size, 0, none⟩) (by show w.heap.size < _; have := HS.out; omega)).trans Q0.out) (by have := HS.out; have := hb'.size; omega)
          · rintro e w2 ⟨rfl, hb2⟩
            cases hres : ((List.range p.rules.length).any fun i => !ruleOk (rget p.rules i) p.bounds.length)
            all_goals
              go_wp2
              go_ret
              exact ⟨by rw [HR.out, hres]; rfl, HBB.out.trans (hb2.mono HBB.out.size)⟩
end Go.Proofs.YtilbbnjfaoldoaaGreatDoor

namespace Go.Proofs.YtilbbnjfaoldoaaGreatDoor
open Go Go.RowKit
attribute [local go_sem] cell_grow u64_sAnd u64_sOr u64_sDiff sDiff_all zeqI zneI sAnd_bit_zero sAnd_bit_zeroN sAnd_bit_nonzero
set_option maxRecDepth 100000 in
set_option maxHeartbeats 800000 in
theorem sub_any (a b c : Bool) (w : World) : Gives Tryz.prog 93 #[.agg #[.bool a, .bool b, .bool c]] w (.bool (asksB 1 a b c)) := by
  unfold Gives
  have hb0 : Below w.heap.size w (w.alloc (.cells #[.bool a, .bool b, .bool c] 122)) := (Below.refl _ _).alloc (Nat.le_refl _) _
  cases a <;> cases b <;> cases c
  all_goals
    go_enter Tryz.func93, Tryz.ntmps93
    go_wp2
    go_ret
    exact ⟨rfl, hb0⟩
set_option maxRecDepth 100000 in
set_option maxHeartbeats 800000 in
theorem apart_any (a b c : Bool) (w : World) : Gives Tryz.prog 94 #[.agg #[.bool a, .bool b, .bool c]] w (.bool (asksB 2 a b c)) := by
  unfold Gives
  have hb0 : Below w.heap.size w (w.alloc (.cells #[.bool a, .bool b, .bool c] 122)) := (Below.refl _ _).alloc (Nat.le_refl _) _
  cases a <;> cases b <;> cases c
  all_goals
    go_enter Tryz.func94, Tryz.ntmps94
    go_wp2
    go_ret
    exact ⟨rfl, hb0⟩
set_option maxRecDepth 100000 in
set_option maxHeartbeats 800000 in
theorem join_any (a b c : Bool) (w : World) : Gives Tryz.prog 95 #[.agg #[.bool a, .bool b, .bool c]] w (.bool (asksB 3 a b c)) := by
  unfold Gives
  have hb0 : Below w.heap.size w (w.alloc (.cells #[.bool a, .bool b, .bool c] 122)) := (Below.refl _ _).alloc (Nat.le_refl _) _
  cases a <;> cases b <;> cases c
  all_goals
    go_enter Tryz.func95, Tryz.ntmps95
    go_wp2
    go_ret
    exact ⟨rfl, hb0⟩
set_option maxRecDepth 100000 in
set_option maxHeartbeats 800000 in
theorem meet_any (a b c : Bool) (w : World) : Gives Tryz.prog 96 #[.agg #[.bool a, .bool b, .bool c]] w (.bool (asksB 4 a b c)) := by
  unfold Gives
  have hb0 : Below w.heap.size w (w.alloc (.cells #[.bool a, .bool b, .bool c] 122)) := (Below.refl _ _).alloc (Nat.le_refl _) _
  cases a <;> cases b <;> cases c
  all_goals
    go_enter Tryz.func96, Tryz.ntmps96
    go_wp2
    go_ret
    exact ⟨rfl, hb0⟩
set_option maxRecDepth 100000 in
set_option maxHeartbeats 800000 in
theorem less_any (a b c : Bool) (w : World) : Gives Tryz.prog 97 #[.agg #[.bool a, .bool b, .bool c]] w (.bool (asksB 5 a b c)) := by
  unfold Gives
  have hb0 : Below w.heap.size w (w.alloc (.cells #[.bool a, .bool b, .bool c] 122)) := (Below.refl _ _).alloc (Nat.le_refl _) _
  cases a <;> cases b <;> cases c
  all_goals
    go_enter Tryz.func97, Tryz.ntmps97
    go_wp2
    go_ret
    exact ⟨rfl, hb0⟩

set_option maxRecDepth 100000 in
set_option maxHeartbeats 800000 in
theorem clash1_any (b : Bnd) (w : World) (hu : U64 b.inn ∧ U64 b.can) : Gives Tryz.prog 92 #[.agg #[.int .u64 (b.inn : Nat), .int .u64 (b.can : Nat)]] w (.bool (clashAt b)) := by
  unfold Gives
  have hb0 : Below w.heap.size w (w.alloc (.cells #[.int .u64 (b.inn : Nat), .int .u64 (b.can : Nat)] 47)) := (Below.refl _ _).alloc (Nat.le_refl _) _
  obtain ⟨hu1, hu2⟩ := hu
  go_enter Tryz.func92, Tryz.ntmps92
  go_wp2
  go_ret
  exact ⟨rfl, hb0⟩
theorem clashB_any (l : List Bnd) : ((List.range l.length).any fun k => clashAt (bget l k)) = clashB l := by
  rw [Bool.eq_iff_iff]
  simp only [clashB, List.any_eq_true, List.mem_range]
  constructor
  · rintro ⟨k, hk, h⟩
    exact ⟨l[k], List.getElem_mem hk, by rwa [show l[k] = bget l k by simp [bget, hk]]⟩
  · rintro ⟨x, hx, h⟩
    obtain ⟨k, hk, rfl⟩ := List.mem_iff_getElem.1 hx
    exact ⟨k, hk, by rwa [show bget l k = l[k] by simp [bget, hk]]⟩
set_option maxRecDepth 100000 in
set_option maxHeartbeats 800000 in
theorem clash_any (l : List Bnd) (v : Value) (w : World) {B : Nat} (hr : Bnds w B v l) (hB : B ≤ w.heap.size) (hu : U64s l) : Gives Tryz.prog 76 #[v] w (.bool (clashB l)) := by
  unfold Gives
  have HR := Lib.hid hr; have HU := Lib.hid hu; clear hr hu
  go_enter Tryz.func76, Tryz.ntmps76
  go_wp2_with fail
  refine (hasB _ _ _ 92 #[] (fun k => clashAt (bget l k)) _ HR.out hB (enters_of Tryz.func92 (by kernel_rfl) rfl) ?_).mono ?_
  · intro k hk w' hb'
    rw [bcellAt_inn, bcellAt_can]
    exact clash1_any (bget l k) w' (HU.out.get k)
  · rintro e w2 ⟨rfl, hb2⟩
    go_wp2
    go_ret
    exact ⟨by rw [← clashB_any]; rfl, hb2⟩

set_option maxRecDepth 100000 in
set_option maxHeartbeats 800000 in
theorem asked_1 (w : World) : Calls Tryz.prog 78 #[.int .i64 1] w fun e w' => e = .returned (.func (.func 93) #[] #[]) ∧ Below w.heap.size w w' := by
  have hmm := @run_makeMap Tryz.prog
  have hb0 : Below w.heap.size w (w.alloc (.map #[⟨.int .i64 1, .func (.func 93) #[] #[], 0⟩, ⟨.int .i64 2, .func (.func 94) #[] #[], 1⟩, ⟨.int .i64 3, .func (.func 95) #[] #[], 2⟩, ⟨.int .i64 4, .func (.func 96) #[] #[], 3⟩, ⟨.int .i64 5, .func (.func 97) #[] #[], 4⟩] 5)) := (Below.refl _ _).alloc (Nat.le_refl _) _
  have m0 := run_mapInsert_new (P := Tryz.prog) w (t := 137) (#[] : Array MapEntry) 0 (.int .i64 1) (.func (.func 93) #[] #[]) Tryz.underlying137 (fun _ => by kernel_rfl) (fun _ => by kernel_rfl)
  have m1 := run_mapInsert_new (P := Tryz.prog) w (t := 137) (#[⟨.int .i64 1, .func (.func 93) #[] #[], 0⟩] : Array MapEntry) 1 (.int .i64 2) (.func (.func 94) #[] #[]) Tryz.underlying137 (fun _ => by kernel_rfl) (fun _ => by kernel_rfl)
  have m2 := run_mapInsert_new (P := Tryz.prog) w (t := 137) (#[⟨.int .i64 1, .func (.func 93) #[] #[], 0⟩, ⟨.int .i64 2, .func (.func 94) #[] #[], 1⟩] : Array MapEntry) 2 (.int .i64 3) (.func (.func 95) #[] #[]) Tryz.underlying137 (fun _ => by kernel_rfl) (fun _ => by kernel_rfl)
  have m3 := run_mapInsert_new (P := Tryz.prog) w (t := 137) (#[⟨.int .i64 1, .func (.func 93) #[] #[], 0⟩, ⟨.int .i64 2, .func (.func 94) #[] #[], 1⟩, ⟨.int .i64 3, .func (.func 95) #[] #[], 2⟩] : Array MapEntry) 3 (.int .i64 4) (.func (.func 96) #[] #[]) Tryz.underlying137 (fun _ => by kernel_rfl) (fun _ => by kernel_rfl)
  have m4 := run_mapInsert_new (P := Tryz.prog) w (t := 137) (#[⟨.int .i64 1, .func (.func 93) #[] #[], 0⟩, ⟨.int .i64 2, .func (.func 94) #[] #[], 1⟩, ⟨.int .i64 3, .func (.func 95) #[] #[], 2⟩, ⟨.int .i64 4, .func (.func 96) #[] #[], 3⟩] : Array MapEntry) 4 (.int .i64 5) (.func (.func 97) #[] #[]) Tryz.underlying137 (fun _ => by kernel_rfl) (fun _ => by kernel_rfl)
  have l := run_mapLookup_new (P := Tryz.prog) w (t := 137) (#[⟨.int .i64 1, .func (.func 93) #[] #[], 0⟩, ⟨.int .i64 2, .func (.func 94) #[] #[], 1⟩, ⟨.int .i64 3, .func (.func 95) #[] #[], 2⟩, ⟨.int .i64 4, .func (.func 96) #[] #[], 3⟩, ⟨.int .i64 5, .func (.func 97) #[] #[], 4⟩] : Array MapEntry) 5 (.int .i64 1) (.func (.func 93) #[] #[]) 0 Tryz.underlying137 rfl (fun _ => by kernel_rfl) (fun _ => by kernel_rfl)
  go_enter Tryz.func78, Tryz.ntmps78
  go_wp2
  go_ret
  exact ⟨rfl, hb0⟩
set_option maxRecDepth 100000 in
set_option maxHeartbeats 800000 in
theorem asked_2 (w : World) : Calls Tryz.prog 78 #[.int .i64 2] w fun e w' => e = .returned (.func (.func 94) #[] #[]) ∧ Below w.heap.size w w' := by
  have hmm := @run_makeMap Tryz.prog
  have hb0 : Below w.heap.size w (w.alloc (.map #[⟨.int .i64 1, .func (.func 93) #[] #[], 0⟩, ⟨.int .i64 2, .func (.func 94) #[] #[], 1⟩, ⟨.int .i64 3, .func (.func 95) #[] #[], 2⟩, ⟨.int .i64 4, .func (.func 96) #[] #[], 3⟩, ⟨.int .i64 5, .func (.func 97) #[] #[], 4⟩] 5)) := (Below.refl _ _).alloc (Nat.le_refl _) _
  have m0 := run_mapInsert_new (P := Tryz.prog) w (t := 137) (#[] : Array MapEntry) 0 (.int .i64 1) (.func (.func 93) #[] #[]) Tryz.underlying137 (fun _ => by kernel_rfl) (fun _ => by kernel_rfl)
  have m1 := run_mapInsert_new (P := Tryz.prog) w (t := 137) (#[⟨.int .i64 1, .func (.func 93) #[] #[], 0⟩] : Array MapEntry) 1 (.int .i64 2) (.func (.func 94) #[] #[]) Tryz.underlying137 (fun _ => by kernel_rfl) (fun _ => by kernel_rfl)
  have m2 := run_mapInsert_new (P := Tryz.prog) w (t := 137) (#[⟨.int .i64 1, .func (.func 93) #[] #[], 0⟩, ⟨.int .i64 2, .func (.func 94) #[] #[], 1⟩] : Array MapEntry) 2 (.int .i64 3) (.func (.func 95) #[] #[]) Tryz.underlying137 (fun _ => by kernel_rfl) (fun _ => by kernel_rfl)
  have m3 := run_mapInsert_new (P := Tryz.prog) w (t := 137) (#[⟨.int .i64 1, .func (.func 93) #[] #[], 0⟩, ⟨.int .i64 2, .func (.func 94) #[] #[], 1⟩, ⟨.int .i64 3, .func (.func 95) #[] #[], 2⟩] : Array MapEntry) 3 (.int .i64 4) (.func (.func 96) #[] #[]) Tryz.underlying137 (fun _ => by kernel_rfl) (fun _ => by kernel_rfl)
  have m4 := run_mapInsert_new (P := Tryz.prog) w (t := 137) (#[⟨.int .i64 1, .func (.func 93) #[] #[], 0⟩, ⟨.int .i64 2, .func (.func 94) #[] #[], 1⟩, ⟨.int .i64 3, .func (.func 95) #[] #[], 2⟩, ⟨.int .i64 4, .func (.func 96) #[] #[], 3⟩] : Array MapEntry) 4 (.int .i64 5) (.func (.func 97) #[] #[]) Tryz.underlying137 (fun _ => by kernel_rfl) (fun _ => by kernel_rfl)
  have l := run_mapLookup_new (P := Tryz.prog) w (t := 137) (#[⟨.int .i64 1, .func (.func 93) #[] #[], 0⟩, ⟨.int .i64 2, .func (.func 94) #[] #[], 1⟩, ⟨.int .i64 3, .func (.func 95) #[] #[], 2⟩, ⟨.int .i64 4, .func (.func 96) #[] #[], 3⟩, ⟨.int .i64 5, .func (.func 97) #[] #[], 4⟩] : Array MapEntry) 5 (.int .i64 2) (.func (.func 94) #[] #[]) 1 Tryz.underlying137 rfl (fun _ => by kernel_rfl) (fun _ => by kernel_rfl)
  go_enter Tryz.func78, Tryz.ntmps78
  go_wp2
  go_ret
  exact ⟨rfl, hb0⟩
set_option maxRecDepth 100000 in
set_option maxHeartbeats 800000 in
theorem asked_3 (w : World) : Calls Tryz.prog 78 #[.int .i64 3] w fun e w' => e = .returned (.func (.func 95) #[] #[]) ∧ Below w.heap.size w w' := by
  have hmm := @run_makeMap Tryz.prog
  have hb0 : Below w.heap.size w (w.alloc (.map #[⟨.int .i64 1, .func (.func 93) #[] #[], 0⟩, ⟨.int .i64 2, .func (.func 94) #[] #[], 1⟩, ⟨.int .i64 3, .func (.func 95) #[] #[], 2⟩, ⟨.int .i64 4, .func (.func 96) #[] #[], 3⟩, ⟨.int .i64 5, .func (.func 97) #[] #[], 4⟩] 5)) := (Below.refl _ _).alloc (Nat.le_refl _) _
  have m0 := run_mapInsert_new (P := Tryz.prog) w (t := 137) (#[] : Array MapEntry) 0 (.int .i64 1) (.func (.func 93) #[] #[]) Tryz.underlying137 (fun _ => by kernel_rfl) (fun _ => by kernel_rfl)
  have m1 := run_mapInsert_new (P := Tryz.prog) w (t := 137) (#[⟨.int .i64 1, .func (.func 93) #[] #[], 0⟩] : Array MapEntry) 1 (.int .i64 2) (.func (.func 94) #[] #[]) Tryz.underlying137 (fun _ => by kernel_rfl) (fun _ => by kernel_rfl)
  have m2 := run_mapInsert_new (P := Tryz.prog) w (t := 137) (#[⟨.int .i64 1, .func (.func 93) #[] #[], 0⟩, ⟨.int .i64 2, .func (.func 94) #[] #[], 1⟩] : Array MapEntry) 2 (.int .i64 3) (.func (.func 95) #[] #[]) Tryz.underlying137 (fun _ => by kernel_rfl) (fun _ => by kernel_rfl)
  have m3 := run_mapInsert_new (P := Tryz.prog) w (t := 137) (#[⟨.int .i64 1, .func (.func 93) #[] #[], 0⟩, ⟨.int .i64 2, .func (.func 94) #[] #[], 1⟩, ⟨.int .i64 3, .func (.func 95) #[] #[], 2⟩] : Array MapEntry) 3 (.int .i64 4) (.func (.func 96) #[] #[]) Tryz.underlying137 (fun _ => by kernel_rfl) (fun _ => by kernel_rfl)
  have m4 := run_mapInsert_new (P := Tryz.prog) w (t := 137) (#[⟨.int .i64 1, .func (.func 93) #[] #[], 0⟩, ⟨.int .i64 2, .func (.func 94) #[] #[], 1⟩, ⟨.int .i64 3, .func (.func 95) #[] #[], 2⟩, ⟨.int .i64 4, .func (.func 96) #[] #[], 3⟩] : Array MapEntry) 4 (.int .i64 5) (.func (.func 97) #[] #[]) Tryz.underlying137 (fun _ => by kernel_rfl) (fun _ => by kernel_rfl)
  have l := run_mapLookup_new (P := Tryz.prog) w (t := 137) (#[⟨.int .i64 1, .func (.func 93) #[] #[], 0⟩, ⟨.int .i64 2, .func (.func 94) #[] #[], 1⟩, ⟨.int .i64 3, .func (.func 95) #[] #[], 2⟩, ⟨.int .i64 4, .func (.func 96) #[] #[], 3⟩, ⟨.int .i64 5, .func (.func 97) #[] #[], 4⟩] : Array MapEntry) 5 (.int .i64 3) (.func (.func 95) #[] #[]) 2 Tryz.underlying137 rfl (fun _ => by kernel_rfl) (fun _ => by kernel_rfl)
  go_enter Tryz.func78, Tryz.ntmps78
  go_wp2
  go_ret
  exact ⟨rfl, hb0⟩
set_option maxRecDepth 100000 in
set_option maxHeartbeats 800000 in
theorem asked_4 (w : World) : Calls Tryz.prog 78 #[.int .i64 4] w fun e w' => e = .returned (.func (.func 96) #[] #[]) ∧ Below w.heap.size w w' := by
  have hmm := @run_makeMap Tryz.prog
  have hb0 : Below w.heap.size w (w.alloc (.map #[⟨.int .i64 1, .func (.func 93) #[] #[], 0⟩, ⟨.int .i64 2, .func (.func 94) #[] #[], 1⟩, ⟨.int .i64 3, .func (.func 95) #[] #[], 2⟩, ⟨.int .i64 4, .func (.func 96) #[] #[], 3⟩, ⟨.int .i64 5, .func (.func 97) #[] #[], 4⟩] 5)) := (Below.refl _ _).alloc (Nat.le_refl _) _
  have m0 := run_mapInsert_new (P := Tryz.prog) w (t := 137) (#[] : Array MapEntry) 0 (.int .i64 1) (.func (.func 93) #[] #[]) Tryz.underlying137 (fun _ => by kernel_rfl) (fun _ => by kernel_rfl)
  have m1 := run_mapInsert_new (P := Tryz.prog) w (t := 137) (#[⟨.int .i64 1, .func (.func 93) #[] #[], 0⟩] : Array MapEntry) 1 (.int .i64 2) (.func (.func 94) #[] #[]) Tryz.underlying137 (fun _ => by kernel_rfl) (fun _ => by kernel_rfl)
  have m2 := run_mapInsert_new (P := Tryz.prog) w (t := 137) (#[⟨.int .i64 1, .func (.func 93) #[] #[], 0⟩, ⟨.int .i64 2, .func (.func 94) #[] #[], 1⟩] : Array MapEntry) 2 (.int .i64 3) (.func (.func 95) #[] #[]) Tryz.underlying137 (fun _ => by kernel_rfl) (fun _ => by kernel_rfl)
  have m3 := run_mapInsert_new (P := Tryz.prog) w (t := 137) (#[⟨.int .i64 1, .func (.func 93) #[] #[], 0⟩, ⟨.int .i64 2, .func (.func 94) #[] #[], 1⟩, ⟨.int .i64 3, .func (.func 95) #[] #[], 2⟩] : Array MapEntry) 3 (.int .i64 4) (.func (.func 96) #[] #[]) Tryz.underlying137 (fun _ => by kernel_rfl) (fun _ => by kernel_rfl)
  have m4 := run_mapInsert_new (P := Tryz.prog) w (t := 137) (#[⟨.int .i64 1, .func (.func 93) #[] #[], 0⟩, ⟨.int .i64 2, .func (.func 94) #[] #[], 1⟩, ⟨.int .i64 3, .func (.func 95) #[] #[], 2⟩, ⟨.int .i64 4, .func (.func 96) #[] #[], 3⟩] : Array MapEntry) 4 (.int .i64 5) (.func (.func 97) #[] #[]) Tryz.underlying137 (fun _ => by kernel_rfl) (fun _ => by kernel_rfl)
  have l := run_mapLookup_new (P := Tryz.prog) w (t := 137) (#[⟨.int .i64 1, .func (.func 93) #[] #[], 0⟩, ⟨.int .i64 2, .func (.func 94) #[] #[], 1⟩, ⟨.int .i64 3, .func (.func 95) #[] #[], 2⟩, ⟨.int .i64 4, .func (.func 96) #[] #[], 3⟩, ⟨.int .i64 5, .func (.func 97) #[] #[], 4⟩] : Array MapEntry) 5 (.int .i64 4) (.func (.func 96) #[] #[]) 3 Tryz.underlying137 rfl (fun _ => by kernel_rfl) (fun _ => by kernel_rfl)
  go_enter Tryz.func78, Tryz.ntmps78
  go_wp2
  go_ret
  exact ⟨rfl, hb0⟩
set_option maxRecDepth 100000 in
set_option maxHeartbeats 800000 in
theorem asked_5 (w : World) : Calls Tryz.prog 78 #[.int .i64 5] w fun e w' => e = .returned (.func (.func 97) #[] #[]) ∧ Below w.heap.size w w' := by
  have hmm := @run_makeMap Tryz.prog
  have hb0 : Below w.heap.size w (w.alloc (.map #[⟨.int .i64 1, .func (.func 93) #[] #[], 0⟩, ⟨.int .i64 2, .func (.func 94) #[] #[], 1⟩, ⟨.int .i64 3, .func (.func 95) #[] #[], 2⟩, ⟨.int .i64 4, .func (.func 96) #[] #[], 3⟩, ⟨.int .i64 5, .func (.func 97) #[] #[], 4⟩] 5)) := (Below.refl _ _).alloc (Nat.le_refl _) _
  have m0 := run_mapInsert_new (P := Tryz.prog) w (t := 137) (#[] : Array MapEntry) 0 (.int .i64 1) (.func (.func 93) #[] #[]) Tryz.underlying137 (fun _ => by kernel_rfl) (fun _ => by kernel_rfl)
  have m1 := run_mapInsert_new (P := Tryz.prog) w (t := 137) (#[⟨.int .i64 1, .func (.func 93) #[] #[], 0⟩] : Array MapEntry) 1 (.int .i64 2) (.func (.func 94) #[] #[]) Tryz.underlying137 (fun _ => by kernel_rfl) (fun _ => by kernel_rfl)
  have m2 := run_mapInsert_new (P := Tryz.prog) w (t := 137) (#[⟨.int .i64 1, .func (.func 93) #[] #[], 0⟩, ⟨.int .i64 2, .func (.func 94) #[] #[], 1⟩] : Array MapEntry) 2 (.int .i64 3) (.func (.func 95) #[] #[]) Tryz.underlying137 (fun _ => by kernel_rfl) (fun _ => by kernel_rfl)
  have m3 := run_mapInsert_new (P := Tryz.prog) w (t := 137) (#[⟨.int .i64 1, .func (.func 93) #[] #[], 0⟩, ⟨.int .i64 2, .func (.func 94) #[] #[], 1⟩, ⟨.int .i64 3, .func (.func 95) #[] #[], 2⟩] : Array MapEntry) 3 (.int .i64 4) (.func (.func 96) #[] #[]) Tryz.underlying137 (fun _ => by kernel_rfl) (fun _ => by kernel_rfl)
  have m4 := run_mapInsert_new (P := Tryz.prog) w (t := 137) (#[⟨.int .i64 1, .func (.func 93) #[] #[], 0⟩, ⟨.int .i64 2, .func (.func 94) #[] #[], 1⟩, ⟨.int .i64 3, .func (.func 95) #[] #[], 2⟩, ⟨.int .i64 4, .func (.func 96) #[] #[], 3⟩] : Array MapEntry) 4 (.int .i64 5) (.func (.func 97) #[] #[]) Tryz.underlying137 (fun _ => by kernel_rfl) (fun _ => by kernel_rfl)
  have l := run_mapLookup_new (P := Tryz.prog) w (t := 137) (#[⟨.int .i64 1, .func (.func 93) #[] #[], 0⟩, ⟨.int .i64 2, .func (.func 94) #[] #[], 1⟩, ⟨.int .i64 3, .func (.func 95) #[] #[], 2⟩, ⟨.int .i64 4, .func (.func 96) #[] #[], 3⟩, ⟨.int .i64 5, .func (.func 97) #[] #[], 4⟩] : Array MapEntry) 5 (.int .i64 5) (.func (.func 97) #[] #[]) 4 Tryz.underlying137 rfl (fun _ => by kernel_rfl) (fun _ => by kernel_rfl)
  go_enter Tryz.func78, Tryz.ntmps78
  go_wp2
  go_ret
  exact ⟨rfl, hb0⟩
end Go.Proofs.YtilbbnjfaoldoaaGreatDoor

namespace Go.Proofs.YtilbbnjfaoldoaaGreatDoor
open Go Go.RowKit
attribute [local go_sem] cell_grow u64_sAnd u64_sOr u64_sDiff sDiff_all zeqI zneI sAnd_bit_zero sAnd_bit_zeroN sAnd_bit_nonzero

theorem below_setCells {B : Nat} {a : World} {b : Nat} (hB : B ≤ b) : ∀ (vs : List Value) (o : Nat) (w : World), Below B a w → Below B a (w.setCells b o vs)
  | [], _, _, h => h
  | v :: vs, o, _, h => below_setCells hB vs (o + 1) _ (h.setCell (p := ⟨b, o, none⟩) hB v)
/-- The n cells from offset o of block b on; whether they are there. -/
def rowOf (w : World) (b o n : Nat) : List Value := (List.range n).map fun j => (w.cell? ⟨b, o + j, none⟩).getD undef
def rowOk (w : World) (b o n : Nat) : Bool := (List.range n).all fun j => (w.cell? ⟨b, o + j, none⟩).isSome
theorem row_range {w : World} {b o n : Nat} (h : rowOk w b o n = true) : w.rangeAt b o (rowOf w b o n) := fun j v hv => by
  have hj : j < n := by have := (List.getElem?_eq_some_iff.1 hv).1; simpa [rowOf] using this
  have h1 := List.all_eq_true.1 h j (List.mem_range.2 hj)
  obtain ⟨u, hu⟩ := Option.isSome_iff_exists.1 h1
  simp only [rowOf, List.getElem?_map, List.getElem?_range hj, Option.map_some, hu, Option.getD_some, Option.some.injEq] at hv
  rw [hu, hv]
theorem row_of_range {w : World} {b o : Nat} {cs : List Value} (h : w.rangeAt b o cs) : rowOf w b o cs.length = cs ∧ rowOk w b o cs.length = true := by
  constructor
  · apply List.ext_getElem?
    intro j
    by_cases hj : j < cs.length
    · simp only [rowOf, List.getElem?_map, List.getElem?_range hj, Option.map_some, h j _ (List.getElem?_eq_getElem hj), Option.getD_some, List.getElem?_eq_getElem hj]
    · rw [List.getElem?_eq_none (by simp [rowOf]; omega), List.getElem?_eq_none (by omega)]
  · unfold rowOk
    rw [List.all_eq_true]
    intro j hj
    rw [h j _ (List.getElem?_eq_getElem (List.mem_range.1 hj))]; rfl
theorem rowOf_congr {w w' : World} {b : Nat} (h : ∀ o, w'.cell? ⟨b, o, none⟩ = w.cell? ⟨b, o, none⟩) (o n : Nat) : rowOf w' b o n = rowOf w b o n ∧ rowOk w' b o n = rowOk w b o n := by
  unfold rowOf rowOk; constructor <;> simp only [h]
open Go.Sort in
theorem rowOf_grow {w : World} {d : Nat} {os : Array Obj} (b o n : Nat) (h : b < w.heap.size) : rowOf (grow (redrawn w d) os) b o n = rowOf w b o n := (rowOf_congr (fun q => cell_grow b q h) o n).1
open Go.Sort in
theorem rowOk_grow {w : World} {d : Nat} {os : Array Obj} (b o n : Nat) (h : b < w.heap.size) : rowOk (grow (redrawn w d) os) b o n = rowOk w b o n := (rowOf_congr (fun q => cell_grow b q h) o n).2
theorem rowOf_alloc {w : World} (ob : Obj) (b o n : Nat) (h : b < w.heap.size) : rowOf (w.alloc ob) b o n = rowOf w b o n := (rowOf_congr (fun q => (bcell (Below.new1 w ob)).1 b q h) o n).1
theorem rowOk_alloc {w : World} (ob : Obj) (b o n : Nat) (h : b < w.heap.size) : rowOk (w.alloc ob) b o n = rowOk w b o n := (rowOf_congr (fun q => (bcell (Below.new1 w ob)).1 b q h) o n).2
theorem row_below {w w' : World} {B b o n : Nat} (hb : Below B w w') (h : b < B) : rowOf w' b o n = rowOf w b o n ∧ rowOk w' b o n = rowOk w b o n := rowOf_congr (fun q => (bcell hb).1 b q h) o n
theorem rowOf_length (w : World) (b o n : Nat) : (rowOf w b o n).length = n := by simp [rowOf]
theorem run_loadBounds (w : World) (b o : Nat) (h : rowOk w b o 16 = true) : (Instr.loadAt 85 (.pointer (some ⟨b, o, none⟩))).run Tryz.prog w = .ok (.agg (rowOf w b o 16).toArray) w :=
  run_loadAt_mid w b o 85 _ _ (row_range h) Tryz.underlying85 rfl (by rw [rowOf_length]; kernel_rfl)
/-- A block of bounds, known whole. -/
theorem bblock {w : World} {b : Nat} {bs : List Bnd} {t : TypeId} (h : w.heap[b]? = some (.cells (bCells bs).toArray t (0, 0))) :
    (∀ i, i < bs.length * 2 → w.cell? ⟨b, i, none⟩ = some (bcellAt bs i)) ∧ (∀ i, w.frozen? ⟨b, i, none⟩ = false) := by
  constructor
  · intro i hi
    rw [cell_of_row w b i _ t (0, 0) h]
    simpa using bCells_get bs i hi
  · intro i
    simp [World.frozen?, h]
theorem bblock_range {w : World} {b : Nat} {bs : List Bnd} {t : TypeId} (h : w.heap[b]? = some (.cells (bCells bs).toArray t (0, 0))) : w.rangeAt b 0 (bCells bs) := fun j v hv => by
  have hj : j < bs.length * 2 := by have := (List.getElem?_eq_some_iff.1 hv).1; rwa [bCells_length] at this
  rw [Nat.zero_add, (bblock h).1 j hj, ← bCells_get bs j hj, hv]
theorem bblock_set {w : World} {b : Nat} {bs : List Bnd} {t : TypeId} (h : w.heap[b]? = some (.cells (bCells bs).toArray t (0, 0))) (v : Nat) (y : Nat) (hv : v < bs.length) :
    (w.setCell ⟨b, v * 2, none⟩ (.int .u64 (y : Nat))).heap[b]? = some (.cells (bCells (bs.set v ⟨y, (bget bs v).can⟩)).toArray t (0, 0)) ∧
    (w.setCell ⟨b, v * 2 + 1, none⟩ (.int .u64 (y : Nat))).heap[b]? = some (.cells (bCells (bs.set v ⟨(bget bs v).inn, y⟩)).toArray t (0, 0)) := by
  constructor
  · simp only [World.setCell, Array.getElem?_modify, if_true, h, Option.map_some]
    simp [bCells_set_inn bs v y hv]
  · simp only [World.setCell, Array.getElem?_modify, if_true, h, Option.map_some]
    simp [bCells_set_can bs v y hv]
theorem bblock_row {w : World} {b : Nat} {bs : List Bnd} {t : TypeId} (h8 : bs.length = 8) (h : w.heap[b]? = some (.cells (bCells bs).toArray t (0, 0))) : rowOf w b 0 16 = bCells bs ∧ rowOk w b 0 16 = true := by
  have := row_of_range (bblock_range h)
  rwa [bCells_length, h8] at this
theorem heap_later {w w' : World} {B b : Nat} {o : Obj} (h : w.heap[b]? = some o) (hb : Below B w w') (hB : b < B) : w'.heap[b]? = some o := (hb.block b hB).trans h
theorem fresh_there {w : World} {b : Nat} {z : Array Value} {t : TypeId} {n : Nat} (h : w.heap[b]? = some (.cells z t (0, 0))) (hz : z.size = n) : w.there b 0 n := fun j hj => by
  constructor
  · rw [Nat.zero_add, cell_of_row w b j z t (0, 0) h]; simp [hz, hj]
  · simp [World.frozen?, h]
/-- Behind the store into the array: it is handed back. -/
theorem with_end (_b : List Bnd) (b' : List Bnd) (hb8 : b'.length = 8) (w W : World) (hbl : W.heap[w.heap.size]? = some (.cells (bCells b').toArray 85 (0, 0)))
    (hz : ∃ z : Array Value, z.size = 16 ∧ W.heap[w.heap.size + 1]? = some (.cells z 85 (0, 0))) (hb : Below w.heap.size w W) :
    W.rangeAt w.heap.size 0 (bCells b') ∧ W.there (w.heap.size + 1) 0 (bCells b').toArray.size ∧ (Tryz.prog.info? 85).map (·.size) = some (bCells b').length ∧
    (loadVar 85 ⟨w.heap.size + 1, 0, none⟩).run Tryz.prog (W.setCells (w.heap.size + 1) 0 (bCells b')) = .ok (.agg (bCells b').toArray) (W.setCells (w.heap.size + 1) 0 (bCells b')) ∧
    Below w.heap.size w (W.setCells (w.heap.size + 1) 0 (bCells b')) := by
  obtain ⟨z, hz1, hz2⟩ := hz
  have hl : (bCells b').length = 16 := by rw [bCells_length, hb8]
  have hi : (Tryz.prog.info? 85).map (·.size) = some (bCells b').length := by rw [hl]; kernel_rfl
  have ht : W.there (w.heap.size + 1) 0 (bCells b').length := fresh_there hz2 (by rw [hz1, hl])
  exact ⟨bblock_range hbl, by simpa using ht, hi, run_loadVar_mid _ _ 0 _ _ _ (World.rangeAt_setCells_same W _ 0 _ ht) Tryz.underlying85 rfl hi, below_setCells (Nat.le_succ _) _ _ _ hb⟩
set_option maxRecDepth 100000 in
set_option maxHeartbeats 800000 in
theorem with_in (b : List Bnd) (v e : Nat) (w : World) (hb8 : b.length = 8) (hv : v < 8) (he : e < 64) (hu : U64s b) :
    Gives Tryz.prog 61 #[.agg (bCells b).toArray, .int .i64 v, .int .i64 e, .bool true] w (.agg (bCells (withB b v e true)).toArray) := by
  unfold Gives
  have hu1 := (hu.get v).1
  have hue := U64.bit he
  go_enter Tryz.func61, Tryz.ntmps61
  go_wp2_with fail
  refine abs_wp (fun W => W.heap[w.heap.size]? = some (.cells (bCells b).toArray 85 (0, 0)) ∧ (∃ z : Array Value, z.size = 16 ∧ W.heap[w.heap.size + 1]? = some (.cells z 85 (0, 0))) ∧ Below w.heap.size w W ∧ w.heap.size + 2 ≤ W.heap.size) ⟨(heap_new2 _ _ _).1, ⟨_, rfl, (heap_new2 _ _ _).2⟩, Below.new2 _ _ _, by simp⟩ ?_
  rintro W ⟨hbl, hz, hb, hs⟩
  have c0 : W.cell? ⟨w.heap.size, v * 2, none⟩ = some (.int .u64 ((bget b v).inn : Nat)) := by rw [← bcellAt_inn]; exact (bblock hbl).1 _ (by omega)
  have HBL := Lib.hid hbl; have HZ := Lib.hid hz; have HB := Lib.hid hb
  clear hbl hz hb
  have hs0 : w.heap.size < W.heap.size := by omega
  refine wp_region_qbt 9 (by kernel_rfl) (by kernel_rfl) ?_
  simp only [List.take_succ_cons, List.take_zero, List.drop_succ_cons, List.drop_zero]
  repeat go_big_quiet_step ((exact Gives.quiet (Gives.of_same (one_any e _ he))))
  refine wpQuiet_nil ?_
  intro w2 hb2
  have hbl2 := heap_later HBL.out hb2 (by omega)
  have f0 := (bblock hbl2).2 (v * 2)
  have c2 : w2.cell? ⟨w.heap.size, v * 2, none⟩ = some (.int .u64 ((bget b v).inn : Nat)) := by rw [← bcellAt_inn]; exact (bblock hbl2).1 _ (by omega)
  have E := with_end b (b.set v ⟨sOr (bget b v).inn (bitN e), (bget b v).can⟩) (by simpa using hb8) w (w2.setCell ⟨w.heap.size, v * 2, none⟩ (.int .u64 ((sOr (bget b v).inn (bitN e) : Nat) : Int))) ((bblock_set hbl2 v _ (by omega)).1)
    (by obtain ⟨z, hz1, hz2⟩ := HZ.out; exact ⟨z, hz1, (Below.heap_setCell _ _ _ _ (by show w.heap.size + 1 ≠ w.heap.size; omega)).trans (heap_later hz2 hb2 (by omega))⟩)
    ((HB.out.trans (hb2.mono (by omega))).setCell (Nat.le_refl _) _)
  have E' := Lib.hid E
  clear hbl2 E
  go_wp2_with (first | (refine wpList_load_mid rfl 85 _ rfl _ _ rfl _ _ E'.out.1 Tryz.underlying85 rfl E'.out.2.2.1 ?_) | (refine wpList_store_mid rfl 85 _ _ rfl _ _ _ rfl rfl E'.out.2.1 (by simpa using E'.out.2.2.1) (all_oneCell_toArray (bCells_one _)) ?_))
  exact bodyPost_ret (v := .agg (bCells (withB b v e true)).toArray) (results_cell1 rfl rfl (by simpa [withB] using E'.out.2.2.2.1)) rfl ⟨rfl, by simpa using E'.out.2.2.2.2⟩
set_option maxRecDepth 100000 in
set_option maxHeartbeats 800000 in
theorem with_out (b : List Bnd) (v e : Nat) (w : World) (hb8 : b.length = 8) (hv : v < 8) (he : e < 64) (hu : U64s b) :
    Gives Tryz.prog 61 #[.agg (bCells b).toArray, .int .i64 v, .int .i64 e, .bool false] w (.agg (bCells (withB b v e false)).toArray) := by
  unfold Gives
  have hu1 := (hu.get v).2
  have hue := U64.bit he
  go_enter Tryz.func61, Tryz.ntmps61
  go_wp2_with fail
  refine abs_wp (fun W => W.heap[w.heap.size]? = some (.cells (bCells b).toArray 85 (0, 0)) ∧ (∃ z : Array Value, z.size = 16 ∧ W.heap[w.heap.size + 1]? = some (.cells z 85 (0, 0))) ∧ Below w.heap.size w W ∧ w.heap.size + 2 ≤ W.heap.size) ⟨(heap_new2 _ _ _).1, ⟨_, rfl, (heap_new2 _ _ _).2⟩, Below.new2 _ _ _, by simp⟩ ?_
  rintro W ⟨hbl, hz, hb, hs⟩
  have c0 : W.cell? ⟨w.heap.size, v * 2 + 1, none⟩ = some (.int .u64 ((bget b v).can : Nat)) := by rw [← bcellAt_can]; exact (bblock hbl).1 _ (by omega)
  have HBL := Lib.hid hbl; have HZ := Lib.hid hz; have HB := Lib.hid hb
  clear hbl hz hb
  have hs0 : w.heap.size < W.heap.size := by omega
  refine wp_region_qbt 9 (by kernel_rfl) (by kernel_rfl) ?_
  simp only [List.take_succ_cons, List.take_zero, List.drop_succ_cons, List.drop_zero]
  repeat go_big_quiet_step ((exact Gives.quiet (Gives.of_same (one_any e _ he))))
  refine wpQuiet_nil ?_
  intro w2 hb2
  have hbl2 := heap_later HBL.out hb2 (by omega)
  have f0 := (bblock hbl2).2 (v * 2 + 1)
  have c2 : w2.cell? ⟨w.heap.size, v * 2 + 1, none⟩ = some (.int .u64 ((bget b v).can : Nat)) := by rw [← bcellAt_can]; exact (bblock hbl2).1 _ (by omega)
  have E := with_end b (b.set v ⟨(bget b v).inn, sDiff (bget b v).can (bitN e)⟩) (by simpa using hb8) w (w2.setCell ⟨w.heap.size, v * 2 + 1, none⟩ (.int .u64 ((sDiff (bget b v).can (bitN e) : Nat) : Int))) ((bblock_set hbl2 v _ (by omega)).2)
    (by obtain ⟨z, hz1, hz2⟩ := HZ.out; exact ⟨z, hz1, (Below.heap_setCell _ _ _ _ (by show w.heap.size + 1 ≠ w.heap.size; omega)).trans (heap_later hz2 hb2 (by omega))⟩)
    ((HB.out.trans (hb2.mono (by omega))).setCell (Nat.le_refl _) _)
  have E' := Lib.hid E
  clear hbl2 E
  go_wp2_with (first | (refine wpList_load_mid rfl 85 _ rfl _ _ rfl _ _ E'.out.1 Tryz.underlying85 rfl E'.out.2.2.1 ?_) | (refine wpList_store_mid rfl 85 _ _ rfl _ _ _ rfl rfl E'.out.2.1 (by simpa using E'.out.2.2.1) (all_oneCell_toArray (bCells_one _)) ?_))
  exact bodyPost_ret (v := .agg (bCells (withB b v e false)).toArray) (results_cell1 rfl rfl (by simpa [withB] using E'.out.2.2.2.1)) rfl ⟨rfl, by simpa using E'.out.2.2.2.2⟩
theorem with_any (b : List Bnd) (v e : Nat) (inn : Bool) (w : World) (hb8 : b.length = 8) (hv : v < 8) (he : e < 64) (hu : U64s b) :
    Gives Tryz.prog 61 #[.agg (bCells b).toArray, .int .i64 v, .int .i64 e, .bool inn] w (.agg (bCells (withB b v e inn)).toArray) := by
  cases inn
  · exact with_out b v e w hb8 hv he hu
  · exact with_in b v e w hb8 hv he hu
end Go.Proofs.YtilbbnjfaoldoaaGreatDoor

namespace Go.Proofs.YtilbbnjfaoldoaaGreatDoor
open Go Go.RowKit
attribute [local go_sem] cell_grow u64_sAnd u64_sOr u64_sDiff sDiff_all zeqI zneI sAnd_bit_zero sAnd_bit_zeroN sAnd_bit_nonzero

theorem ownsRow_row {w : World} {base : Nat} {e : TypeId} {sz : Nat} {v : Value} {n : Nat} {xs : List Value} (h : w.ownsRow base e sz v n xs) (hn : n ≤ 140737488355328) {c : Nat → Value} (hc : ∀ i, i < n * sz → xs[i]? = some (c i)) :
    Row w w.heap.size sz v n c := by
  obtain ⟨_, h | ⟨g, cap, cur, rfl, hb, hg, h1, h2, h3, h4⟩⟩ := h
  · obtain ⟨rfl, rfl⟩ := h
    exact ⟨hn, none, 0, rfl, Nat.le_refl _, by unfold maxLen; omega, fun h => absurd h (Nat.lt_irrefl _)⟩
  · refine ⟨hn, _, cap, rfl, h1, h2, fun _ => ⟨g, 0, rfl, (Array.getElem?_eq_some_iff.1 hg).1, fun i hi => ?_⟩⟩
    rw [Nat.zero_add, cell_of_row w g i cur e (0, 0) hg, ← hc i hi, ← h4, List.getElem?_take, if_pos hi]
    simp
theorem bCells_snoc (l : List Bnd) (x : Bnd) : bCells (l ++ [x]) = bCells l ++ [.int .u64 (x.inn : Nat), .int .u64 (x.can : Nat)] := by
  apply List.ext_getElem?
  intro i
  have hl := bCells_length l
  by_cases h : i < l.length * 2
  · rw [bCells_get _ _ (by simp; omega), List.getElem?_append_left (by omega), bCells_get _ _ h]
    have e : bget (l ++ [x]) (i / 2) = bget l (i / 2) := by unfold bget; rw [List.getElem?_append_left (by omega)]
    unfold bcellAt; rw [e]
  · rw [List.getElem?_append_right (by omega), hl]
    have e (k : Nat) (hk : k = l.length) : bget (l ++ [x]) k = x := by subst hk; simp [bget]
    by_cases h1 : i = l.length * 2
    · subst h1
      rw [bCells_get _ _ (by simp <;> omega), bcellAt_inn, e _ rfl]; simp
    · by_cases h2 : i = l.length * 2 + 1
      · subst h2
        rw [bCells_get _ _ (by simp <;> omega), bcellAt_can, e _ rfl]; rw [show l.length * 2 + 1 - l.length * 2 = 1 by omega]; rfl
      · rw [List.getElem?_eq_none (by rw [bCells_length]; simp; omega), List.getElem?_eq_none (by simp; omega)]
theorem Tryz.info67 : (Tryz.prog.info? 47).map (fun i => (i.zero, i.size, i.bytes)) = some (some (.agg #[.int .u64 0, .int .u64 0]), 2, 16) := by kernel_rfl
theorem ofB_take_succ (b : List Bnd) (vars : List Int) (k : Nat) (h : k < vars.length) : ofB b (vars.take (k + 1)) = ofB b (vars.take k) ++ [bget b (iget vars k).toNat] := by
  unfold ofB
  rw [List.take_succ_eq_append_getElem h, List.map_append]
  simp [iget, h]

set_option maxRecDepth 100000 in
set_option maxHeartbeats 800000 in
theorem of_any (b : List Bnd) (hb8 : b.length = 8) (r : Rl) (vv : Value) (w : World) {B : Nat} (hv0 : Ints w B vv r.vars) (hB : B ≤ w.heap.size) (hlen : r.vars.length ≤ 3) (hrange : ∀ i, i < r.vars.length → 0 ≤ iget r.vars i ∧ iget r.vars i < 8) :
    Calls Tryz.prog 75 #[.agg (bCells b).toArray, .agg #[.int .i64 r.kind, vv, .int .i64 r.low, .int .i64 r.high]] w fun e w' =>
      ∃ v, e = .returned v ∧ Bnds w' w'.heap.size v (ofB b r.vars) ∧ Below w.heap.size w w' := by
  obtain ⟨_, a, cap, rfl, _, _, hr⟩ := hv0.mono hB
  clear hv0 hB
  obtain ⟨i0, hi, hz0, hz1, hz2⟩ := info_parts Tryz.info67
  go_enter Tryz.func75, Tryz.ntmps75
  go_wp2
  refine abs_wp (fun W => W.heap[w.heap.size]? = some (.cells (bCells b).toArray 85 (0, 0)) ∧ Below w.heap.size w W ∧ w.heap.size + 2 = W.heap.size) ⟨(heap_new2 _ _ _).1, Below.new2 _ _ _, by simp⟩ ?_
  rintro W ⟨hbl, hb0, hsz⟩
  have HBL := Lib.hid hbl; have HB0 := Lib.hid hb0; have HS := Lib.hid hsz
  clear hbl hb0 hsz
  go_loopw [5, 11] (fun v i wr => ∃ k : Nat, k ≤ r.vars.length ∧ i = .int .i64 k ∧ wr.ownsRow W.heap.size 47 2 v k (bCells (ofB b (r.vars.take k))) ∧ Below W.heap.size W wr) (fun _ i _ => r.vars.length - (intOf i).toNat)
  case atStart => exact ⟨0, Nat.zero_le _, rfl, World.ownsRow_nil _ _ _ _, Below.refl _ _⟩
  case round =>
    obtain ⟨k, hk, rfl, hown, hb⟩ := hrel
    by_cases hlt : k < r.vars.length
    · obtain ⟨bb, off, rfl, hbs, hcell⟩ := hr (by omega)
      have hbb := HB0.out.trans (hb.mono (by have := HS.out; omega))
      have c0 : wr.cell? ⟨bb, off + k, none⟩ = some (.int .i64 (iget r.vars k)) := rowCell hcell hbb hbs k (by omega) rfl rfl
      obtain ⟨j, hj⟩ : ∃ j : Nat, iget r.vars k = j := ⟨(iget r.vars k).toNat, by have := hrange k hlt; omega⟩
      have hj8 : j < 8 := by have := hrange k hlt; omega
      rw [hj] at c0
      have hbl2 := heap_later HBL.out hb (by have := HS.out; omega)
      have c1 : wr.cell? ⟨w.heap.size, j * 2, none⟩ = some (.int .u64 ((bget b j).inn : Nat)) := by rw [← bcellAt_inn]; exact (bblock hbl2).1 _ (by omega)
      have c2 : wr.cell? ⟨w.heap.size, j * 2 + 1, none⟩ = some (.int .u64 ((bget b j).can : Nat)) := by rw [← bcellAt_can]; exact (bblock hbl2).1 _ (by omega)
      have HJ := Lib.hid hj; have HB := Lib.hid hb; have HBB := Lib.hid hbb
      have hn1 : k + 1 ≤ maxLen := by unfold maxLen; omega
      clear hj hb hbb hcell hr hbl2 hrange
      go_wp2_with (at_builtin; refine wpList_append_own _ rfl _ _ 22 rfl W.heap.size 47 i0 (.agg #[.int .u64 0, .int .u64 0]) 2 16 Tryz.underlying22 hi hz0 hz1 hz2 rfl (by decide) _ _ _ rfl (hown.alloc _) ⟨wr.heap.size, 0, none⟩ 1 1 [.int .u64 ((bget b j).inn : Nat), .int .u64 ((bget b j).can : Nat)] rfl rfl ?c1 ?c2 ?c3 ?c4 ?c5 ?_)
      case c1 =>
        intro q u hq
        match q, hq with
        | 0, hq => simp at hq; subst hq; simp [Addr.add]
        | 1, hq => simp at hq; subst hq; simp [Addr.add]
      case c2 => intro u hu; simp at hu; rcases hu with rfl | rfl <;> rfl
      case c3 => exact hn1
      case c4 => omega
      case c5 => have := HB.out.size; simp; omega
      intro v' w1 hown' hgrow _
      have hb1 := (HB.out.alloc HB.out.size _).grown hgrow (by have := HB.out.size; simp; omega) (fun q hq => (hown.lt q hq).1)
      have e := ofB_take_succ b r.vars k hlt
      have e2 : bCells (ofB b (r.vars.take k)) ++ [.int .u64 ((bget b j).inn : Nat), .int .u64 ((bget b j).can : Nat)] = bCells (ofB b (r.vars.take (k + 1))) := by
        rw [e, bCells_snoc, HJ.out]; rfl
      rw [e2] at hown'
      clear hown hgrow e e2
      go_wp2
      go_roundw
      case rel => exact ⟨k + 1, by omega, by go_num, hown', hb1⟩
      case measure => simp [intOf]; omega
    · have hk2 : k = r.vars.length := by omega
      subst hk2
      rw [List.take_length] at hown
      have hfin : Bnds wr wr.heap.size u5 (ofB b r.vars) := by
        have hl : (ofB b r.vars).length = r.vars.length := by simp [ofB]
        unfold Bnds; rw [hl]
        exact ownsRow_row hown (by omega) (fun i hi => bCells_get _ _ (by rw [hl]; exact hi))
      clear hr
      go_wp2
      go_ret
      exact ⟨_, rfl, hfin, HB0.out.trans (hb.mono (by have := HS.out; omega))⟩
end Go.Proofs.YtilbbnjfaoldoaaGreatDoor
