/- Memory predicates and small laws that all walks of this seat use. No program in sight. · A region that draws its order: operations that are quiet in a class of worlds, and behind them all a forced tail that may write. After the library's wp_region_still_tail (one world) and wp_region_quiet (a class, no tail). · A region in the body of a loop over a function: where none of its operations defers, it goes as anywhere. · What the functions of package domain compute, in plain Lean: domains as numbers, fields as lists. No program in sight. · The functions of package slices that are walked here, by their contracts; slices of numbers in memory. · 'for e := range elements(s)': the iterator of package sets, and the loop over it. · Laws of memory, of regions and of calls that name no program: own rows, blocks that stay, appends. -/
import Derived.WalkKit
import Derived.WalkSpells
import Derived.WalkLawsBesides
import Derived.Lib.Hide
import Derived.Lib.QuietBelow
import Derived.BigQuiet
import Derived.Shelf.Abstract
import Derived.Shelf.Spec.TrailingZeros
import Derived.RangeFuncNested
import Derived.RangeFuncBound
import Derived.RangeFuncCalls
import Derived.RangeFuncLeaves
import Derived.OwnWalkIn
import Derived.TacticsInMore
import Derived.LoopNIn
import Derived.LoopIn
import Derived.Deep.MidRow
import Derived.Laws.EntriesVeiled
import Derived.Deep.WholeRow
import Derived.Recover
import Derived.RegionTactic
import Derived.BigRegion
import Derived.Deep.RegionHeld3
import Derived.StillTailTactics
import Derived.OrdersIn
import Derived.Lib.BitFns
import Derived.Test.YtdmmegmkdhinjaaGreatDoorProg
import Derived.Deep.Upon
import Derived.Lib.SliceRun
import Derived.Deep.Cut
namespace Go.Proofs.YtdmmegmkdhinjaaGreatDoor
open Go Go.RowKit

/-- A call that hands back the value v; of what was there nothing has turned. -/
def Gives (P : Program) (f : FuncId) (args : Array Value) (w : World) (v : Value) : Prop :=
  Calls P f args w fun e w' => e = .returned v ∧ Below w.heap.size w w'

theorem Gives.of_same {P : Program} {f : FuncId} {args : Array Value} {w : World} {v : Value}
    (h : Calls P f args w fun e w' => e = .returned v ∧ w' = w) : Gives P f args w v :=
  h.mono fun _ _ ⟨he, hw⟩ => ⟨he, hw ▸ Below.refl _ _⟩

theorem Gives.to {P : Program} {f : FuncId} {args : Array Value} {w : World} {v v' : Value} (h : Gives P f args w v) (e : v = v') : Gives P f args w v' := e ▸ h

/-- The slice value v has n elements of sz cells each; cell number i of them holds c i; all of it below block B. -/
def Row (w : World) (B sz : Nat) (v : Value) (n : Nat) (c : Nat → Value) : Prop :=
  n ≤ 140737488355328 ∧ ∃ a cap, v = .slice a n cap ∧ n ≤ cap ∧ cap ≤ maxLen ∧ (0 < n → ∃ b off, a = some ⟨b, off, none⟩ ∧ b < B ∧ ∀ i, i < n * sz → w.cell? ⟨b, off + i, none⟩ = some (c i))

theorem Row.below {w w' : World} {B sz : Nat} {v : Value} {n : Nat} {c : Nat → Value} (h : Row w B sz v n c) {B' : Nat} (hb : Below B' w w') (hB : B ≤ B') : Row w' B sz v n c := by
  obtain ⟨hn, a, cap, hv, hc, hm, hr⟩ := h
  refine ⟨hn, a, cap, hv, hc, hm, fun h0 => ?_⟩
  obtain ⟨b, off, ha, hbB, hcell⟩ := hr h0
  exact ⟨b, off, ha, hbB, fun i hi => (hb.cell (p := ⟨b, off + i, none⟩) (by exact Nat.lt_of_lt_of_le hbB hB)).trans (hcell i hi)⟩

theorem Row.mono {w : World} {B sz : Nat} {v : Value} {n : Nat} {c : Nat → Value} (h : Row w B sz v n c) {B' : Nat} (hB : B ≤ B') : Row w B' sz v n c := by
  obtain ⟨hn, a, cap, hv, hc, hm, hr⟩ := h
  refine ⟨hn, a, cap, hv, hc, hm, fun h0 => ?_⟩
  obtain ⟨b, off, ha, hbB, hcell⟩ := hr h0
  exact ⟨b, off, ha, by omega, hcell⟩

theorem bcell {B : Nat} {W w1 : World} (hb : Below B W w1) : (∀ b o, b < B → w1.cell? ⟨b, o, none⟩ = W.cell? ⟨b, o, none⟩) ∧ (∀ b o, b < B → w1.frozen? ⟨b, o, none⟩ = W.frozen? ⟨b, o, none⟩) :=
  ⟨fun b o h => hb.cell (p := ⟨b, o, none⟩) h, fun b o h => hb.frozen (p := ⟨b, o, none⟩) h⟩

/-- A bound of the element type. -/
structure Bnd where
  inn : Nat
  can : Nat
deriving DecidableEq, Repr, Inhabited

/-- A number that fits 64 bits; kept shut, so that the walk does not see the numeral. -/
def U64 (n : Nat) : Prop := n < 18446744073709551616
/-- Sets as numbers; kept shut, so that simp moves no cast. -/
def bitN (e : Nat) : Nat := 2 ^ e
def sAnd (a b : Nat) : Nat := a &&& b
def sOr (a b : Nat) : Nat := a ||| b
def sDiff (a b : Nat) : Nat := a ^^^ (a &&& b)
theorem bitN_testBit (e i : Nat) : (bitN e).testBit i = decide (e = i) := by unfold bitN; exact Nat.testBit_two_pow
theorem sAnd_testBit (a b i : Nat) : (sAnd a b).testBit i = (a.testBit i && b.testBit i) := Nat.testBit_and _ _ _
theorem sOr_testBit (a b i : Nat) : (sOr a b).testBit i = (a.testBit i || b.testBit i) := Nat.testBit_or _ _ _
theorem sDiff_testBit (a b i : Nat) : (sDiff a b).testBit i = (a.testBit i && !b.testBit i) := by
  unfold sDiff; rw [Nat.testBit_xor, Nat.testBit_and]; cases a.testBit i <;> cases b.testBit i <;> rfl
theorem U64.and {a b : Nat} (_ha : U64 a) (hb : U64 b) : U64 (sAnd a b) := Nat.lt_of_le_of_lt Nat.and_le_right hb
theorem U64.or {a b : Nat} (ha : U64 a) (hb : U64 b) : U64 (sOr a b) := Nat.or_lt_two_pow (n := 64) ha hb
theorem U64.diff {a b : Nat} (ha : U64 a) : U64 (sDiff a b) := Nat.xor_lt_two_pow (n := 64) ha (Nat.lt_of_le_of_lt Nat.and_le_left ha)
theorem U64.bit {e : Nat} (h : e < 64) : U64 (bitN e) := Nat.pow_lt_pow_right (by decide) h
theorem u64_sAnd {a b : Nat} (ha : U64 a) (hb : U64 b) : bits .and .u64 (a : Int) (b : Int) = ((sAnd a b : Nat) : Int) := u64_and_nat a b ha hb
theorem u64_sOr {a b : Nat} (ha : U64 a) (hb : U64 b) : bits .or .u64 (a : Int) (b : Int) = ((sOr a b : Nat) : Int) := u64_or_nat a b ha hb
theorem u64_sDiff {a b : Nat} (ha : U64 a) (hb : U64 b) : bits .andNot .u64 (a : Int) (b : Int) = ((sDiff a b : Nat) : Int) := by
  rw [u64_andNot_nat a b ha hb]
  congr 1
  apply Nat.eq_of_testBit_eq
  intro i
  have hb' : b < 2 ^ 64 := hb
  have ha' : a < 2 ^ 64 := ha
  rw [sDiff_testBit, Nat.testBit_and, show 18446744073709551615 - b = 2 ^ 64 - (b + 1) by omega, Nat.testBit_two_pow_sub_succ hb']
  by_cases hi : i < 64
  · cases a.testBit i <;> cases b.testBit i <;> simp [hi]
  · have : a.testBit i = false := Nat.testBit_lt_two_pow (Nat.lt_of_lt_of_le ha' (Nat.pow_le_pow_right (by decide) (by omega)))
    simp [this]
theorem i64_and {a b : Nat} (ha : a < 2 ^ 62) (hb : b < 2 ^ 62) : bits .and .i64 (a : Int) (b : Int) = ((a &&& b : Nat) : Int) := by
  have hx : a &&& b < 2 ^ 62 := Nat.and_lt_two_pow _ hb
  have h1 : (BitVec.ofInt 64 (a : Int)).toNat = a := by rw [BitVec.ofInt_natCast, BitVec.toNat_ofNat]; exact Nat.mod_eq_of_lt (by omega)
  have h2 : (BitVec.ofInt 64 (b : Int)).toNat = b := by rw [BitVec.ofInt_natCast, BitVec.toNat_ofNat]; exact Nat.mod_eq_of_lt (by omega)
  show IntKind.i64.wrap ((BitVec.ofInt 64 (a : Int) &&& BitVec.ofInt 64 (b : Int)).toNat : Int) = _
  rw [BitVec.toNat_and, h1, h2]
  exact IntWalk.i64_in _ (by omega)
theorem mask_bit (mask k : Nat) (h : mask < 2 ^ 62) : (bits .and .i64 ((mask : Int) / 2 ^ k) 1 == 1) = mask.testBit k := by
  have e : ((mask : Int) / 2 ^ k) = ((mask / 2 ^ k : Nat) : Int) := by simp
  rw [e, show (1 : Int) = ((1 : Nat) : Int) from rfl, i64_and (Nat.lt_of_le_of_lt (Nat.div_le_self _ _) h) (by decide)]
  rw [Nat.testBit_eq_decide_div_mod_eq, Nat.and_one_is_mod]
  rw [Bool.eq_iff_iff]; simp; omega
theorem zeqI (n : Nat) : (((n : Nat) : Int) == 0) = (n == 0) := by rw [Bool.eq_iff_iff]; simp
theorem zneI (n : Nat) : (((n : Nat) : Int) != 0) = !(n == 0) := by rw [bne, zeqI]
theorem sAnd_bit_zero (c e : Nat) : (((sAnd c (bitN e) : Nat) : Int) == 0) = !c.testBit e := by
  have hp := Nat.two_pow_pos e
  have hm : c / 2 ^ e % 2 = 0 ∨ c / 2 ^ e % 2 = 1 := by omega
  unfold sAnd bitN
  rw [nat_bit, Nat.testBit_eq_decide_div_mod_eq]
  rcases hm with hm | hm
  · rw [hm]; simp
  · rw [hm, Nat.one_mul]
    generalize 2 ^ e = q at hp
    simp; omega
theorem sAnd_bit_zeroN (c e : Nat) : (sAnd c (bitN e) == 0) = !c.testBit e := by rw [← zeqI, sAnd_bit_zero]
theorem sDiff_all {a : Nat} (ha : U64 a) : bits .andNot .u64 (a : Int) 4095 = ((sDiff a 4095 : Nat) : Int) := u64_sDiff ha (b := 4095) (by show (4095 : Nat) < _; decide)
theorem sAnd_bit_nonzero (c e : Nat) : (((sAnd c (bitN e) : Nat) : Int) != 0) = c.testBit e := by
  rw [bne, sAnd_bit_zero c e, Bool.not_not]

/-- The first number below n for which p says yes; -1 if there is none. -/
def idxOf (p : Nat → Bool) (n : Nat) : Int := match (List.range n).find? p with | some k => k | none => -1
theorem idxOf_none {p : Nat → Bool} {n : Nat} (h : ∀ j, j < n → p j = false) : idxOf p n = -1 := by
  unfold idxOf
  rw [List.find?_eq_none.2 (by intro x hx; rw [h x (List.mem_range.1 hx)]; decide)]
theorem idxOf_some {p : Nat → Bool} {n k : Nat} (hk : k < n) (h : ∀ j, j < k → p j = false) (hp : p k = true) : idxOf p n = k := by
  unfold idxOf
  have : (List.range n).find? p = some k := by
    rw [List.find?_range_eq_some]
    exact ⟨hp, List.mem_range.2 hk, fun j hj => by rw [h j hj]; rfl⟩
  rw [this]
theorem idxOf_any (p : Nat → Bool) (n : Nat) : decide (0 ≤ idxOf p n) = (List.range n).any p := by
  unfold idxOf
  cases h : (List.range n).find? p with
  | none =>
    rw [List.find?_eq_none] at h
    have : (List.range n).any p = false := by rw [Bool.eq_false_iff]; intro hc; obtain ⟨x, hx, hp⟩ := List.any_eq_true.1 hc; exact h x hx hp
    rw [this]; rfl
  | some k =>
    have hp := List.find?_some h
    have hm := List.mem_of_find?_eq_some h
    rw [List.any_eq_true.2 ⟨k, hm, hp⟩]; simp
/-- A cell of a row, later. -/
theorem rowCell {w wr : World} {b off N B i o : Nat} {c : Nat → Value} (hcell : ∀ i, i < N → w.cell? ⟨b, off + i, none⟩ = some (c i)) (hb : Below B w wr) (hbs : b < B) (i' : Nat) (hi : i' < N) (e : i' = i) (ho : off + i = o) :
    wr.cell? ⟨b, o, none⟩ = some (c i) := by
  subst e ho; exact (hb.cell (p := ⟨b, off + i', none⟩) hbs).trans (hcell i' hi)
theorem Row.take {w : World} {B sz : Nat} {a : Option Addr} {n cap : Nat} {c : Nat → Value} (h : Row w B sz (.slice a n cap) n c) {i : Nat} (hi : i ≤ n) : Row w B sz (.slice a i cap) i c := by
  obtain ⟨hn, a', cap', hv, hc, hm, hr⟩ := h
  cases hv
  refine ⟨by omega, a, cap, rfl, by omega, hm, fun h0 => ?_⟩
  obtain ⟨b, off, ha, hbB, hcell⟩ := hr (by omega)
  exact ⟨b, off, ha, hbB, fun j hj => hcell j (Nat.lt_of_lt_of_le hj (Nat.mul_le_mul_right _ hi))⟩
/-! A region that draws its order, and whose callees make memory: walked once, in the order of the text. -/
open Go.Sort in
theorem cell_grow {w : World} {d : Nat} {os : Array Obj} (b o : Nat) (h : b < w.heap.size) : (grow (redrawn w d) os).cell? ⟨b, o, none⟩ = w.cell? ⟨b, o, none⟩ := (below_regrown w d os).cell (p := ⟨b, o, none⟩) h
open Go.Sort in
theorem below_grow {w W : World} (h : Below w.heap.size w W) (d : Nat) (os : Array Obj) : Below w.heap.size w (grow (redrawn W d) os) := h.trans ((below_regrown W d os).mono h.size)
open Go.Sort in
theorem frozen_grow {w : World} {d : Nat} {os : Array Obj} (b o : Nat) (h : b < w.heap.size) : (grow (redrawn w d) os).frozen? ⟨b, o, none⟩ = w.frozen? ⟨b, o, none⟩ := (below_regrown w d os).frozen (p := ⟨b, o, none⟩) h
open Go.Sort in
theorem wp_region_qb {P : Program} {id : Nat} {Q : Exit → Act → World → Prop} {a : Act} {w : World} {l : List Oper} (hm : P.follows .mixedOrders = true) (hB : Region.lexB .any l.toArray = true)
    (h : wpQuiet P l.toArray (fun w' => ∃ p : Regrown, w' = grow (redrawn w p.d) p.os) (fun a' => ∀ w', Below w.heap.size w w' → Q .normal a' w') l a) : (Code.region id l.toArray true).wp P Q a w := by
  refine wp_region_quiet (C := fun w' => ∃ p : Regrown, w' = grow (redrawn w p.d) p.os) hm hB ⟨⟨w.drawn + 1, #[]⟩, by rw [grow_empty]; rfl⟩ ?_
  have key : ∀ (l' : List Oper) (a : Act), wpQuiet P l.toArray (fun w' => ∃ p : Regrown, w' = grow (redrawn w p.d) p.os) (fun a' => ∀ w', Below w.heap.size w w' → Q .normal a' w') l' a →
      wpQuiet P l.toArray (fun w' => ∃ p : Regrown, w' = grow (redrawn w p.d) p.os) (fun a' => ∀ w', (∃ p : Regrown, w' = grow (redrawn w p.d) p.os) → Q .normal a' w') l' a := by
    intro l'
    induction l' with
    | nil => intro a h w' ⟨p, hp⟩; exact h w' (hp ▸ below_regrown w p.d p.os)
    | cons o l' ih =>
      intro a h
      unfold wpQuiet at h ⊢
      split
      · rename_i hw; rw [if_pos hw] at h; exact Oper.quiet_mono (fun a => ih a) h
      · rename_i hw; rw [if_neg hw] at h; exact ih _ h
  exact key _ _ (by simpa using h)
open Go.Sort in
/-- A callee's contract, met in a world of the class. -/
theorem Gives.quiet {P : Program} {f : FuncId} {args : Array Value} {w : World} {d : Nat} {os : Array Obj} {v : Value} (h : Gives P f args (grow (redrawn w d) os) v) :
    Calls P f args (grow (redrawn w d) os) fun e w'' => e = .returned v ∧ ∃ p : Regrown, w'' = grow (redrawn w p.d) p.os := Calls.regrown_of h


/-! A map that the call has just made, its keys written out. -/
theorem run_getObj_new {P : Program} (w : World) (es : Array MapEntry) (c : Nat) : (getObj w.heap.size).run P (w.alloc (.map es c)) = .ok (.map es c) (w.alloc (.map es c)) := by
  simp only [getObj, Sem.run, heap_alloc_last]
theorem run_setObj_new {P : Program} (w : World) (es es' : Array MapEntry) (c c' : Nat) : (setObj w.heap.size (.map es' c')).run P (w.alloc (.map es c)) = .ok () (w.alloc (.map es' c')) := by
  simp only [setObj, Sem.run, heap_alloc_last]
  congr 1
  simp only [World.alloc]
  congr 1
  apply Array.ext_getElem?
  intro i
  by_cases h : w.heap.size = i
  · subst h; simp
  · have h' : ¬ i = w.heap.size := fun e => h e.symm
    simp [h, h', Array.getElem?_push]
theorem run_mapInsert_new {P : Program} (w : World) {t kt et : TypeId} (es : Array MapEntry) (clock : Nat) (key v : Value) (hu : P.underlying t = some (.map kt et))
    (hc : ∀ w, (Instr.checkKey false 10000 kt key).run P w = .ok () w) (hf : ∀ w, (Instr.findKey kt key es.toList).run P w = .ok none w) :
    (Instr.mapUpdate t (.map (some w.heap.size)) key v).run P (w.alloc (.map es clock)) = .ok () (w.alloc (.map (es.push { key, val := v, born := clock }) (clock + 1))) := by
  simp only [Instr.mapUpdate, Sem.run_bind, run_underlying hu, Result.andThen_ok, run_getObj_new, hc, hf, run_setObj_new]
theorem run_mapLookup_new {P : Program} (w : World) {t kt et : TypeId} (es : Array MapEntry) (clock : Nat) (key v : Value) (i : Nat) (hu : P.underlying t = some (.map kt et)) (he : es.isEmpty = false)
    (hc : ∀ w, (Instr.checkKey false 10000 kt key).run P w = .ok () w) (hf : ∀ w, (Instr.findKey kt key es.toList).run P w = .ok (some (i, v)) w) :
    (Instr.lookup t (.map (some w.heap.size)) key false).run P (w.alloc (.map es clock)) = .ok v (w.alloc (.map es clock)) := by
  simp only [Instr.lookup, Sem.run_bind, run_underlying hu, Result.andThen_ok, run_getObj_new, he, hc, hf, Sem.run_pure, Bool.false_eq_true, if_false]

/-- The world under a new name, with what is needed of it. -/
theorem abs_wp {P : Program} {c : Code} {Q : Exit → Act → World → Prop} {a : Act} {W : World} (R : World → Prop) (hR : R W) (h : ∀ W', R W' → Code.wp P c Q a W') : Code.wp P c Q a W := h W hR
theorem heap_new0 (w : World) (o : Obj) : (w.alloc o).heap[w.heap.size]? = some o := heap_alloc_last w o
theorem heap_at {w : World} {o : Obj} {k : Nat} (h : k = w.heap.size) : (w.alloc o).heap[k]? = some o := by subst h; exact heap_alloc_last w o
theorem heap_old {w : World} {o o' : Obj} {k : Nat} (h : w.heap[k]? = some o') : (w.alloc o).heap[k]? = some o' := (Below.heap_alloc _ _ _ (Array.getElem?_eq_some_iff.1 h).1).trans h
theorem heap_new2 (w : World) (o1 o2 : Obj) : ((w.alloc o1).alloc o2).heap[w.heap.size]? = some o1 ∧ ((w.alloc o1).alloc o2).heap[w.heap.size + 1]? = some o2 :=
  ⟨heap_old (heap_new0 _ _), heap_at (by simp)⟩
theorem heap_new3 (w : World) (o1 o2 o3 : Obj) : (((w.alloc o1).alloc o2).alloc o3).heap[w.heap.size]? = some o1 ∧ (((w.alloc o1).alloc o2).alloc o3).heap[w.heap.size + 1]? = some o2 ∧ (((w.alloc o1).alloc o2).alloc o3).heap[w.heap.size + 2]? = some o3 :=
  ⟨heap_old (heap_new2 _ _ _).1, heap_old (heap_new2 _ _ _).2, heap_at (by simp)⟩
theorem heap_new4 (w : World) (o1 o2 o3 o4 : Obj) : ((((w.alloc o1).alloc o2).alloc o3).alloc o4).heap[w.heap.size]? = some o1 ∧ ((((w.alloc o1).alloc o2).alloc o3).alloc o4).heap[w.heap.size + 1]? = some o2 ∧
    ((((w.alloc o1).alloc o2).alloc o3).alloc o4).heap[w.heap.size + 2]? = some o3 ∧ ((((w.alloc o1).alloc o2).alloc o3).alloc o4).heap[w.heap.size + 3]? = some o4 :=
  ⟨heap_old (heap_new3 _ _ _ _).1, heap_old (heap_new3 _ _ _ _).2.1, heap_old (heap_new3 _ _ _ _).2.2, heap_at (by simp)⟩
theorem Below.new1 (w : World) (o : Obj) : Below w.heap.size w (w.alloc o) := (Below.refl _ _).alloc (Nat.le_refl _) _
theorem Below.new2 (w : World) (o1 o2 : Obj) : Below w.heap.size w ((w.alloc o1).alloc o2) := (Below.new1 w o1).alloc (by simp) _
theorem Below.new3 (w : World) (o1 o2 o3 : Obj) : Below w.heap.size w (((w.alloc o1).alloc o2).alloc o3) := (Below.new2 w o1 o2).alloc (by simp; omega) _
theorem Below.new4 (w : World) (o1 o2 o3 o4 : Obj) : Below w.heap.size w ((((w.alloc o1).alloc o2).alloc o3).alloc o4) := (Below.new3 w o1 o2 o3).alloc (by simp; omega) _
theorem loadVar_one {P : Program} {w : World} {ty : TypeId} {d : TypeDesc} {a : Addr} {v : Value} (hu : P.underlying ty = some d) (hd : d.isRow = false) (hc : w.cell? a = some v) : (loadVar ty a).run P w = .ok v w := by
  have hagg : (isAgg ty).run P w = .ok false w := by
    unfold isAgg
    rw [Sem.run_bind, run_underlying hu w]
    cases d <;> simp_all
  simp [loadVar, Sem.run_bind, hagg, load, Sem.run, hc]
theorem results_cell1 {fn : Func} {p : Tmp} {ty : TypeId} (h : fn.results = #[.cell p ty]) {tmps : Array Value} {P : Program} {w : World} {a : Addr} {v : Value} (hp : tmps.getD p undef = .pointer (some a)) (hl : (loadVar ty a).run P w = .ok v w) :
    (results fn tmps).run P w = .ok v w := by
  have hp' : tmps[p]?.getD undef = .pointer (some a) := by rw [← hp]; simp
  simp [results, h, hp', asAddr, hl]
end Go.Proofs.YtdmmegmkdhinjaaGreatDoor

namespace Go.Proofs.YtdmmegmkdhinjaaGreatDoor
open Go Go.RowKit Go.Sort
section
variable {P : Program} {ops : Array Oper} {md : Region.Mode} {C : World → Prop}
def wpAnyC (P : Program) (md : Region.Mode) (ops : Array Oper) (C : World → Prop) (n : Nat) (L : Array Bool → Act → Prop) : Nat → Array Bool → Act → Prop
  | 0, listed, a => L listed a
  | f + 1, listed, a =>
    Region.ready md ops listed ≠ [] ∧ ∀ i ∈ Region.ready md ops listed, i < n ∧ qOp P ops C i (wpAnyC P md ops C n L f (listed.setIfInBounds i true)) a
theorem wpAny_of_headC {n g : Nat} {L : Array Bool → Act → Prop} {Q' : Exit → Act → World → Prop} (hL : ∀ listed a w, C w → L listed a → wpAny P md ops Q' g listed a w) :
    ∀ (f : Nat) (listed : Array Bool) (a : Act) (w : World), C w → wpAnyC P md ops C n L f listed a → wpAny P md ops Q' (f + g) listed a w
  | 0, listed, a, w, hw, h => by rw [Nat.zero_add]; exact hL _ _ _ hw h
  | f + 1, listed, a, w, hw, h => by
    rw [show f + 1 + g = (f + g) + 1 by omega]
    exact ⟨fun h0 => absurd h0 h.1, fun i hi => wpOp_of_qOp hw (fun a' w' hw' h' => wpAny_of_headC hL f _ a' w' hw' h') (h.2 i hi).2⟩
theorem wpAnyC_first {n i : Nat} {oi : Oper} {v : Value} {L : Array Bool → Act → Prop} (hi : ops[i]? = some oi) (hsel : ∀ (j : Nat) (o : Oper) cs b, ops[j]? = some o → o.op ≠ .select cs b)
    (hs : Region.sinkB md ops n = true) (hc : Region.chainB md ops n = true) (hn : n < ops.size) (hin : i < n)
    (hdone : ∀ listed a, L listed a → ∀ j ∈ Region.ready md ops listed, n ≤ j) :
    ∀ (f : Nat) (listed : Array Bool) (a : Act), HeadInv md ops n listed →
      (∀ j oj, ops[j]? = some oj → j ≠ i → listed.getD j true = false → (∀ e ∈ oj.after, Region.binds md e = true → e.on ≠ i) → oi.apart ops oj = true) →
      i ∈ Region.ready md ops listed → YieldsIn P ops C oi v a →
      wpAnyC P md ops C n L f (listed.setIfInBounds i true) (a.put oi.dst v) → wpAnyC P md ops C n L (f + 1) listed a := by
  intro f
  induction f with
  | zero =>
    intro listed a inv _ hr hy H
    have hun := (mem_ready.1 hr).1
    refine ⟨fun h => (by rw [h] at hr; cases hr), fun j hj => ?_⟩
    have hjn : j < n := by
      rcases Nat.lt_or_ge j n with h | h
      · exact h
      · exact absurd hj (tail_waits hs hc hn inv _ i rfl hin hun j h)
    refine ⟨hjn, ?_⟩
    by_cases hji : j = i
    · subst hji; exact hy.qOp hi H
    · have := hdone _ _ H j (ready_mono hj hji)
      omega
  | succ f ih =>
    intro listed a inv hfree hr hy H
    have hun := (mem_ready.1 hr).1
    refine ⟨fun h => (by rw [h] at hr; cases hr), fun j hj => ?_⟩
    have hjn : j < n := by
      rcases Nat.lt_or_ge j n with h | h
      · exact h
      · exact absurd hj (tail_waits hs hc hn inv _ i rfl hin hun j h)
    refine ⟨hjn, ?_⟩
    by_cases hji : j = i
    · subst hji; exact hy.qOp hi H
    · have h1 := (H.2 j (ready_mono hj hji)).2
      obtain ⟨hjun, oj, hoj, hall⟩ := mem_ready.1 hj
      have hnot : ∀ e ∈ oj.after, Region.binds md e = true → e.on ≠ i := fun e he hb heq => by
        have h1 := hall e he hb
        rw [heq, getD_both hun] at h1
        cases h1
      have h2 := qOp_put hoj (hfree j oj hoj hji hjun hnot) (fun cs b => hsel i oi cs b hi) (fun cs b => hsel j oj cs b hoj) hy h1
      have hfree' : ∀ k ok, ops[k]? = some ok → k ≠ i → (listed.setIfInBounds j true).getD k true = false →
          (∀ e ∈ ok.after, Region.binds md e = true → e.on ≠ i) → oi.apart ops ok = true := fun k ok hk hki hun hno => by
        refine hfree k ok hk hki ?_ hno
        by_cases hjk : j = k
        · subst hjk; exact hjun
        · rw [getD_set_ne true hjk] at hun; exact hun
      refine qOp_mono (fun a' h3 => ih (listed.setIfInBounds j true) a' (inv.set hj hjn) hfree' (ready_mono hr (Ne.symm hji)) h3.1 ?_) h2
      rw [Array.setIfInBounds_comm _ _ hji]
      exact h3.2
theorem wpAnyC_lex {n g : Nat} {Lq : Act → Prop} (hsel : Region.noSelect ops = true) (hs : Region.sinkB md ops n = true) (hc : Region.chainB md ops n = true) (hn : n < ops.size) :
    ∀ (l : List Oper) (k : Nat) (listed : Array Bool) (a : Act), (∀ j, j < l.length → l[j]? = ops[k + j]?) → k + l.length = n → HeadInv md ops n listed →
    Region.lexHead md ops g l.length k listed = true → wpQuiet P ops C Lq l a →
    wpAnyC P md ops C n (fun listed' a' => Region.seqB md ops g n listed' = true ∧ Lq a') l.length listed a
  | [], k, listed, a, _, hk, _, hB, h => by
    have : k = n := by simpa using hk
    subst this
    exact ⟨by simpa [Region.lexHead] using hB, h⟩
  | o :: l, k, listed, a, hl, hk, inv, hB, h => by
    have h0 : ops[k]? = some o := by simpa using (hl 0 (by simp)).symm
    simp only [List.length_cons, Region.lexHead, Bool.and_eq_true] at hB
    obtain ⟨⟨hr, hf⟩, hB'⟩ := hB
    have hkn : k < n := by simp only [List.length_cons] at hk; omega
    have hr' : k ∈ Region.ready md ops listed := by simpa using hr
    have hst : qOp P ops C k (wpQuiet P ops C Lq l) a := by unfold qOp; simp only [h0]; exact h
    obtain ⟨v, hy, hK⟩ := yieldsIn_of_qOp h0 hst
    exact wpAnyC_first h0 (Region.noSelect_spec hsel) hs hc hn hkn (fun listed' a' hL => seqB_ready hL.1) l.length listed a inv (Region.free_spec h0 hf) hr' hy
      (wpAnyC_lex hsel hs hc hn l (k + 1) _ _ (fun j hj => by have := hl (j + 1) (by simp; omega); simpa [Nat.add_assoc, Nat.add_comm 1 j] using this) (by simp only [List.length_cons] at hk; omega) (inv.set hr' hkn) hB' hK)
theorem wp_region_tailC {id : Nat} {Q : Exit → Act → World → Prop} {a : Act} {w : World} {l : List Oper} (n : Nat) (hm : P.follows .mixedOrders = true) (hB : Region.lexTailB .any l.toArray n = true)
    (hC : C { w with drawn := w.drawn + 1 })
    (h : wpQuiet P l.toArray C (fun a' => ∀ w', C w' → wpList P l.toArray Q (l.drop n) a' w') (l.take n) a) : (Code.region id l.toArray true).wp P Q a w := by
  simp only [Region.lexTailB, Bool.and_eq_true, decide_eq_true_eq] at hB
  obtain ⟨⟨⟨⟨hsel, hn⟩, hs⟩, hc⟩, hlex⟩ := hB
  have hn' : n < l.length := by simpa using hn
  have htl : (l.take n).length = n := by simp; omega
  have hdl : (l.drop n).length = l.toArray.size - n := by simp
  have inv0 : HeadInv .any l.toArray n (Array.replicate l.toArray.size false) :=
    ⟨by simp, fun j oj _ hl => (by rw [getD_replicate_false] at hl; cases hl), fun t _ ht => getD_in (by simpa using ht) (getD_replicate_false _ _)⟩
  have H := wpAnyC_lex (md := .any) (g := l.toArray.size - n) hsel hs hc hn (l.take n) 0 _ a (fun j hj => by
    have hj' : j < n := by rw [htl] at hj; exact hj
    simp [hj']) (by simpa using htl) inv0 (by rw [htl]; exact hlex) h
  refine wp_region_any hm ?_
  have := wpAny_of_headC (Q' := Q) (g := l.toArray.size - n) (fun listed a' w' hw' hL => by
    have := wpAny_of_seq (md := .any) (Q' := Q) (l.drop n) n listed a' w' (fun j => by simp [List.getElem?_drop]) (by rw [hdl]; exact hL.1) (hL.2 w' hw')
    rwa [hdl] at this) _ _ _ _ hC H
  rw [htl, show n + (l.toArray.size - n) = l.toArray.size by omega] at this
  exact this
/-- The same at the class 'some blocks laid, some draws made'. -/
theorem wp_region_qbt {id : Nat} {Q : Exit → Act → World → Prop} {a : Act} {w : World} {l : List Oper} (n : Nat) (hm : P.follows .mixedOrders = true) (hB : Region.lexTailB .any l.toArray n = true)
    (h : wpQuiet P l.toArray (fun w' => ∃ p : Regrown, w' = grow (redrawn w p.d) p.os) (fun a' => ∀ w', Below w.heap.size w w' → wpList P l.toArray Q (l.drop n) a' w') (l.take n) a) : (Code.region id l.toArray true).wp P Q a w := by
  refine wp_region_tailC (C := fun w' => ∃ p : Regrown, w' = grow (redrawn w p.d) p.os) n hm hB ⟨⟨w.drawn + 1, #[]⟩, by rw [grow_empty]; rfl⟩ ?_
  have key : ∀ (l' : List Oper) (a : Act), wpQuiet P l.toArray (fun w' => ∃ p : Regrown, w' = grow (redrawn w p.d) p.os) (fun a' => ∀ w', Below w.heap.size w w' → wpList P l.toArray Q (l.drop n) a' w') l' a →
      wpQuiet P l.toArray (fun w' => ∃ p : Regrown, w' = grow (redrawn w p.d) p.os) (fun a' => ∀ w', (∃ p : Regrown, w' = grow (redrawn w p.d) p.os) → wpList P l.toArray Q (l.drop n) a' w') l' a := by
    intro l'
    induction l' with
    | nil => intro a h w' ⟨p, hp⟩; exact h w' (hp ▸ below_regrown w p.d p.os)
    | cons o l' ih =>
      intro a h
      unfold wpQuiet at h ⊢
      split
      · rename_i hw; rw [if_pos hw] at h; exact Oper.quiet_mono (fun a => ih a) h
      · rename_i hw; rw [if_neg hw] at h; exact ih _ h
  exact key _ _ h
end
end Go.Proofs.YtdmmegmkdhinjaaGreatDoor

namespace Go.Proofs.YtdmmegmkdhinjaaGreatDoor
open Go Go.RowKit Go.Sort
section
variable {P : Program} {ops : Array Oper} {md : Region.Mode} {n l : Nat}
theorem rowsIn_round {row : String} {args : Array Value} {w : World} {R : Value → World → Prop} (h : Rows P row args w R) : RowsIn (Fence.wide.inRound l) n P row args w R :=
  fun c cs _ => let ⟨v, w', r, s⟩ := h c cs; ⟨v, w', r, stepsIn_wide.2 s⟩
theorem oper_round {o : Oper} {a : Act} {w : World} {K K' : Act → World → Prop} {Q : Exit → Act → World → Prop} (hd : ∀ c, o.op ≠ .defer c) (hout : ¬ LetsOut Q) (hk : ∀ a w, K a w → K' a w) (h : o.wp P a w K Q) :
    o.wpIn (Fence.wide.inRound l) n P a w K' Q := by
  refine ⟨fun _ _ => trivial, ?_⟩
  rw [Oper.semAt_eq _ _ _ hd]
  unfold Oper.wp at h
  generalize (execOp a.eval o).run P w = r at *
  cases r with
  | ok x w' =>
    cases x <;> simp only [Oper.upon] at h <;> simp only [Oper.uponIn]
    case value v => exact hk _ _ h
    case skip => exact hk _ _ h
    case defer d => exact hk _ _ h
    case enter f args =>
      refine ⟨(fun h0 => by cases h0), CallsIn.inRound l (callsIn_wide.2 (h.mono fun e w'' he => ?_))⟩
      cases e with
      | returned v => exact hk _ _ he
      | panicked chain => exact he
      | outgrown => exact absurd he hout
    case row row args => exact ⟨(fun h0 => by cases h0), rowsIn_round (h.mono fun _ _ he => hk _ _ he)⟩
  | halt x w' => cases x <;> simp only [Oper.upon] at h <;> simp only [Oper.uponIn]; exact h
theorem wpOp_round {Q : Exit → Act → World → Prop} (hd : ∀ (j : Nat) (o : Oper), ops[j]? = some o → ∀ c, o.op ≠ .defer c) (hout : ¬ LetsOut Q) {i : Nat} {K K' : Act → World → Prop} (hk : ∀ a w, K a w → K' a w) {a : Act} {w : World}
    (h : wpOp P ops Q i K a w) : wpOpIn (Fence.wide.inRound l) n P ops Q i K' a w := by
  unfold wpOp at h
  unfold wpOpIn
  split
  · rename_i ho; simp only [ho] at h; exact hk _ _ h
  · rename_i o ho
    simp only [ho] at h
    split
    · rename_i hw
      rw [if_pos hw] at h
      rcases h with h | h
      · exact oper_round (hd _ _ ho) hout hk h
      · exact absurd h.2 hout
    · rename_i hw
      rw [if_neg hw] at h
      exact ⟨fun _ _ => trivial, hk _ _ h⟩
theorem wpAny_round {Q : Exit → Act → World → Prop} (hd : ∀ (j : Nat) (o : Oper), ops[j]? = some o → ∀ c, o.op ≠ .defer c) (hout : ¬ LetsOut Q) : ∀ (f : Nat) (listed : Array Bool) (a : Act) (w : World),
    wpAny P md ops Q f listed a w → wpAnyIn (Fence.wide.inRound l) n P md ops Q f listed a w
  | 0, _, _, _, h => h
  | f + 1, _, _, _, h => ⟨h.1, fun i hi => wpOp_round hd hout (fun a' w' => wpAny_round hd hout f _ a' w') (h.2 i hi)⟩
def noDefers (ops : Array Oper) : Bool := ops.all fun o => match o.op with | .defer _ => false | _ => true
theorem noDefers_spec (h : noDefers ops = true) : ∀ (j : Nat) (o : Oper), ops[j]? = some o → ∀ c, o.op ≠ .defer c := fun j o ho c hc => by
  unfold noDefers at h
  have := Array.all_eq_true_iff_forall_mem.1 h o (Array.mem_of_getElem? ho)
  rw [hc] at this; cases this
/-- A quiet region in a round's body. -/
theorem wpIn_region_qb {id : Nat} {Q : Exit → Act → World → Prop} {a : Act} {w : World} {l' : List Oper} (hm : P.follows .mixedOrders = true) (hB : (Region.lexB .any l'.toArray && noDefers l'.toArray) = true) (hout : ¬ LetsOut Q)
    (h : wpQuiet P l'.toArray (fun w' => ∃ p : Regrown, w' = grow (redrawn w p.d) p.os) (fun a' => ∀ w', Below w.heap.size w w' → Q .normal a' w') l' a) : (Code.region id l'.toArray true).wpIn (Fence.wide.inRound l) n P Q a w := by
  simp only [Bool.and_eq_true] at hB
  have hlex := hB.1
  simp only [Region.lexB, Bool.and_eq_true] at hlex
  refine wpIn_region_any hm (wpAny_round (noDefers_spec hB.2) hout _ _ _ _ ?_)
  refine wpAny_of_quiet (C := fun w' => ∃ p : Regrown, w' = grow (redrawn w p.d) p.os) (Q := fun a' => ∀ w', Below w.heap.size w w' → Q .normal a' w') (fun _ w' ⟨p, hp⟩ h => h w' (hp ▸ below_regrown w p.d p.os)) _ _ _ _ ⟨⟨w.drawn + 1, #[]⟩, by rw [grow_empty]; rfl⟩ ?_
  have := wpAnyQ_lex (C := fun w' => ∃ p : Regrown, w' = grow (redrawn w p.d) p.os) (md := .any) hlex.1 l' 0 (Array.replicate l'.toArray.size false) a (by simp) (by simpa using hlex.2) h
  simpa using this
/-- One with a forced tail that writes: the tail is walked as a plain region's operations. -/
theorem wpIn_region_qbt {id : Nat} {Q : Exit → Act → World → Prop} {a : Act} {w : World} {l' : List Oper} (k : Nat) (hm : P.follows .mixedOrders = true) (hB : (Region.lexTailB .any l'.toArray k && noDefers l'.toArray) = true) (hout : ¬ LetsOut Q)
    (h : wpQuiet P l'.toArray (fun w' => ∃ p : Regrown, w' = grow (redrawn w p.d) p.os) (fun a' => ∀ w', Below w.heap.size w w' → wpList P l'.toArray Q (l'.drop k) a' w') (l'.take k) a) : (Code.region id l'.toArray true).wpIn (Fence.wide.inRound l) n P Q a w := by
  simp only [Bool.and_eq_true] at hB
  have hB1 := hB.1
  simp only [Region.lexTailB, Bool.and_eq_true, decide_eq_true_eq] at hB1
  obtain ⟨⟨⟨⟨hsel, hn⟩, hs⟩, hc⟩, hlex⟩ := hB1
  have hn' : k < l'.length := by simpa using hn
  have htl : (l'.take k).length = k := by simp; omega
  have hdl : (l'.drop k).length = l'.toArray.size - k := by simp
  have inv0 : HeadInv .any l'.toArray k (Array.replicate l'.toArray.size false) :=
    ⟨by simp, fun j oj _ hl => (by rw [getD_replicate_false] at hl; cases hl), fun t _ ht => getD_in (by simpa using ht) (getD_replicate_false _ _)⟩
  have H := wpAnyC_lex (md := .any) (g := l'.toArray.size - k) hsel hs hc hn (l'.take k) 0 _ a (fun j hj => by
    have hj' : j < k := by rw [htl] at hj; exact hj
    simp [hj']) (by simpa using htl) inv0 (by rw [htl]; exact hlex) h
  refine wpIn_region_any hm (wpAny_round (noDefers_spec hB.2) hout _ _ _ _ ?_)
  have := wpAny_of_headC (C := fun w' => ∃ p : Regrown, w' = grow (redrawn w p.d) p.os) (Q' := Q) (g := l'.toArray.size - k) (fun listed a' w' ⟨p, hp⟩ hL => by
    have := wpAny_of_seq (md := .any) (Q' := Q) (l'.drop k) k listed a' w' (fun j => by simp [List.getElem?_drop]) (by rw [hdl]; exact hL.1) (hL.2 w' (hp ▸ below_regrown w p.d p.os))
    rwa [hdl] at this) _ _ _ _ ⟨⟨w.drawn + 1, #[]⟩, by rw [grow_empty]⟩ H
  have e : k + (l'.toArray.size - k) = l'.toArray.size := Nat.add_sub_of_le (Nat.le_of_lt hn)
  rw [htl, e] at this
  exact this
/-- Any region in a round's body, by the plain walk of all orders. -/
theorem wpIn_region_all {id : Nat} {Q : Exit → Act → World → Prop} {a : Act} {w : World} {l' : List Oper} (hm : P.follows .mixedOrders = true) (hB : noDefers l'.toArray = true) (hout : ¬ LetsOut Q)
    (h : wpAny P .any l'.toArray Q l'.toArray.size (Array.replicate l'.toArray.size false) a { w with drawn := w.drawn + 1 }) : (Code.region id l'.toArray true).wpIn (Fence.wide.inRound l) n P Q a w :=
  wpIn_region_any hm (wpAny_round (noDefers_spec hB) hout _ _ _ _ h)
end
end Go.Proofs.YtdmmegmkdhinjaaGreatDoor

namespace Go.Proofs.YtdmmegmkdhinjaaGreatDoor
open Go Go.RowKit

/-- A rule. -/
structure Dr where
  kind : Int
  vars : List Int
  nums : List Int
  n : Int
deriving DecidableEq, Repr, Inhabited
/-- A problem. -/
structure Dp where
  doms : List Nat
  rules : List Dr
deriving DecidableEq, Repr, Inhabited
/-- A cut. -/
structure Cut where
  var : Int
  value : Int
  rule : Int
  why : List Int
deriving DecidableEq, Repr, Inhabited

def natI (n : Nat) : Int := n
def inB (n l h : Int) : Bool := decide (l ≤ n) && decide (n ≤ h)
def iget (xs : List Int) (i : Nat) : Int := xs[i]?.getD 0
def ihas (xs : List Int) (x : Int) : Bool := xs.contains x
def nget (xs : List Nat) (i : Nat) : Nat := xs[i]?.getD 0
def drget (rs : List Dr) (i : Nat) : Dr := rs[i]?.getD default
def cget (cs : List Cut) (i : Nat) : Cut := cs[i]?.getD default
/-- Whether a domain has a value. -/
def hasD (d : Nat) (v : Int) : Bool := inB v 0 15 && d.testBit v.toNat
def allB (l : List Int) (lo hi : Int) : Bool := l.all fun n => inB n lo hi
def distinctD (vars : List Int) : Bool := (List.range vars.length).all fun i => !ihas (vars.take i) (iget vars i)
def formD (r : Dr) : Bool :=
  if r.kind = 1 then decide (1 ≤ (r.vars.length : Int)) && ((r.nums.length : Int) == (r.vars.length : Int)) && allB r.nums (-20) 20
  else if r.kind = 2 then decide (2 ≤ (r.vars.length : Int)) && ((r.nums.length : Int) == 0) && (r.n == 0)
  else if r.kind = 3 then ((r.vars.length : Int) == 2) && inB r.nums.length 1 16 && allB r.nums 0 15 && (r.n == 0)
  else if r.kind = 4 then ((r.vars.length : Int) == 2) && ((r.nums.length : Int) == 0)
  else false
def ruleD (r : Dr) (vars : Int) : Bool :=
  inB r.kind 1 4 && decide ((r.vars.length : Int) ≤ 4) && allB r.vars 0 (vars - 1) && inB r.n (-1000) 1000 && distinctD r.vars && formD r
def probD (p : Dp) : Bool :=
  inB p.doms.length 1 8 && decide ((p.rules.length : Int) ≤ 12) && p.doms.all (fun d => decide (d < 65536)) && p.rules.all fun r => ruleD r p.doms.length

/-- The values of a domain, increasing. -/
def elems (s : Nat) : List Nat := (List.range 64).filter s.testBit
def ctzN (m : Nat) : Nat := Lib.ctz 64 m
def hiD (d : Nat) : Nat := Lib.bitLen d - 1
def sumD : List Int → List Nat → Int
  | n :: ns, d :: ds => n * (if n < 0 then (hiD d : Int) else (ctzN d : Int)) + sumD ns ds
  | _, _ => 0
/-- All different, and different from what is taken. -/
def diffD : List Nat → Nat → Bool
  | [], _ => true
  | d :: ds, t => (elems (sDiff d t)).any fun v => diffD ds (sOr t (bitN v))
def canD (r : Dr) (doms : List Nat) : Bool :=
  if r.kind = 1 then decide (sumD r.nums doms ≤ r.n)
  else if r.kind = 2 then diffD doms 0
  else if r.kind = 3 then (elems (nget doms 0)).any fun v => decide (v < r.nums.length) && hasD (nget doms 1) (iget r.nums v)
  else (elems (nget doms 1)).any fun v => hasD (nget doms 0) (v + r.n)
def possD (r : Dr) (doms : List Nat) : Bool := !doms.contains 0 && canD r doms
/-- The domains of a rule's variables. -/
def ofD (f : List Nat) (vars : List Int) : List Nat := vars.map fun x => nget f x.toNat
def suppD (f : List Nat) (r : Dr) (i : Nat) (v : Int) : Bool := hasD (nget (ofD f r.vars) i) v && possD r ((ofD f r.vars).set i (bitN v.toNat))
/-- Eight domains. -/
def padD (l : List Nat) : List Nat := l ++ List.replicate (8 - l.length) 0
/-- The witness, from one place on. -/
def witD (r : Dr) : Nat → Nat → List Nat → List Int
  | 0, _, _ => []
  | k + 1, i, l =>
    match (elems (nget l i)).find? fun v => possD r (l.set i (bitN v)) with
    | some v => (v : Int) :: witD r k (i + 1) (l.set i (bitN v))
    | none => witD r k (i + 1) (match (elems (nget l i)).getLast? with | some v => l.set i (bitN v) | none => l)

/-! the propagation -/
abbrev Sd := List Nat × List Cut
def whyStep (l : List Cut) (x : Int) (f : List Nat) (k : Int) : List Nat :=
  if (cget l k.toNat).var = x then f else f.set (cget l k.toNat).var.toNat (sDiff (nget f (cget l k.toNat).var.toNat) (bitN (cget l k.toNat).value.toNat))
def whyF (p : Dp) (l : List Cut) (c : Cut) : List Nat := c.why.foldl (whyStep l c.var) (padD p.doms)
def explD (p : Dp) (l : List Cut) (c : Cut) : Bool :=
  !suppD (whyF p l c) (drget p.rules c.rule.toNat) ((drget p.rules c.rule.toNat).vars.idxOf c.var) c.value
def why0 (p : Dp) (l : List Cut) (c : Cut) : List Int :=
  ((List.range l.length).filter fun i => !((cget l i).var == c.var) && ihas (drget p.rules c.rule.toNat).vars (cget l i).var).map natI
def redD (p : Dp) (l : List Cut) (c : Cut) : Nat → List Int → List Int
  | 0, xs => xs
  | i + 1, xs => if explD p l { c with why := xs.eraseIdx i } then redD p l c i (xs.eraseIdx i) else redD p l c i xs
def reasonD (p : Dp) (l : List Cut) (c : Cut) : Cut := { c with why := redD p l c (why0 p l c).length (why0 p l c) }
def cutV (p : Dp) (rs : Bool) (n i : Nat) (st : Sd) (v : Nat) : Sd :=
  let r := drget p.rules n
  let x := (iget r.vars i).toNat
  if suppD st.1 r i v then st
  else (st.1.set x (sDiff (nget st.1 x) (bitN v)), if rs then st.2 ++ [reasonD p st.2 ⟨iget r.vars i, v, n, []⟩] else st.2)
def sweepD (p : Dp) (rs : Bool) (n i : Nat) (st : Sd) : Sd := (elems (nget st.1 (iget (drget p.rules n).vars i).toNat)).foldl (cutV p rs n i) st
/-- Places of a rule, from one on; false: a domain is empty. -/
def placesD (p : Dp) (rs : Bool) (n : Nat) : List Nat → Sd → Sd × Bool
  | [], st => (st, true)
  | i :: is, st =>
    let s := sweepD p rs n i st
    if nget s.1 (iget (drget p.rules n).vars i).toNat = 0 then (s, false) else placesD p rs n is s
def rulesD (p : Dp) (rs : Bool) : List Nat → Sd → Sd × Bool
  | [], st => (st, true)
  | n :: ns, st =>
    let s := placesD p rs n (List.range (drget p.rules n).vars.length) st
    if s.2 then rulesD p rs ns s.1 else s
def roundsD (p : Dp) (rs : Bool) : Nat → Sd → Sd
  | 0, st => st
  | k + 1, st =>
    let s := rulesD p rs (List.range p.rules.length) st
    if s.2 then (if s.1.1 = st.1 then s.1 else roundsD p rs k s.1) else s.1
def sizeD (d : Nat) : Nat := (elems d).length
def totalD (f : List Nat) : Nat := (f.map sizeD).sum
def runD (p : Dp) (rs : Bool) (f : List Nat) : Sd := if (f.take p.doms.length).contains 0 then (f, []) else roundsD p rs (totalD f + 1) (f, [])
def propD (p : Dp) : Sd := runD p true (padD p.doms)

/-! logs -/
def rightD (p : Dp) (l : List Cut) (c : Cut) : Bool :=
  inB c.rule 0 (p.rules.length - 1) && ihas (drget p.rules c.rule.toNat).vars c.var && hasD (nget p.doms c.var.toNat) c.value && allB c.why 0 (l.length - 1) &&
    !l.any (fun o => o.var == c.var && o.value == c.value) && (List.range (c.why.length - 1)).all (fun i => decide (iget c.why i < iget c.why (i + 1))) && explD p l c
def wrongD (p : Dp) (l : List Cut) : Int := let i := (List.range l.length).find? fun i => !rightD p (l.take i) (cget l i); match i with | some k => k | none => -1

/-! the search -/
structure Fd where
  nodes : Nat
  opn : Bool
  sols : List (List Int)
deriving DecidableEq, Repr, Inhabited
def labelD (n : Nat) (f : List Nat) : Int :=
  (List.range n).foldl (fun out i => if 2 ≤ sizeD (nget f i) ∧ (out < 0 ∨ sizeD (nget f i) < sizeD (nget f out.toNat)) then (i : Int) else out) (-1)
def solD (n : Nat) (f : List Nat) : List Int := (List.range n).flatMap fun i => (elems (nget f i)).map natI
end Go.Proofs.YtdmmegmkdhinjaaGreatDoor

namespace Go.Proofs.YtdmmegmkdhinjaaGreatDoor
open Go Go.RowKit
attribute [local go_sem] cell_grow u64_sAnd u64_sOr u64_sDiff sDiff_all zeqI zneI sAnd_bit_zero sAnd_bit_zeroN sAnd_bit_nonzero

/-- Whatever of a slice of ints. -/
def Ints (w : World) (B : Nat) (v : Value) (xs : List Int) : Prop := Row w B 1 v xs.length (fun i => .int .i64 (iget xs i))
theorem Ints.below {w w' : World} {B : Nat} {v : Value} {xs : List Int} (h : Ints w B v xs) {B' : Nat} (hb : Below B' w w') (hB : B ≤ B') : Ints w' B v xs := Row.below h hb hB
theorem Ints.mono {w : World} {B : Nat} {v : Value} {xs : List Int} (h : Ints w B v xs) {B' : Nat} (hB : B ≤ B') : Ints w B' v xs := Row.mono h hB
theorem Row.congr {w : World} {B sz : Nat} {v : Value} {n : Nat} {c c' : Nat → Value} (h : Row w B sz v n c) (e : ∀ i, i < n * sz → c i = c' i) : Row w B sz v n c' := by
  obtain ⟨hn, a, cap, hv, hc, hm, hr⟩ := h
  refine ⟨hn, a, cap, hv, hc, hm, fun h0 => ?_⟩
  obtain ⟨b, off, ha, hbB, hcell⟩ := hr h0
  exact ⟨b, off, ha, hbB, fun i hi => by rw [← e i hi]; exact hcell i hi⟩
theorem iget_take {xs : List Int} {k i : Nat} (h : i < k) : iget (xs.take k) i = iget xs i := by unfold iget; rw [List.getElem?_take, if_pos h]
theorem Ints.take {w : World} {B : Nat} {a : Option Addr} {n cap : Nat} {xs : List Int} (h : Ints w B (.slice a n cap) xs) {k : Nat} (hk : k ≤ xs.length) : Ints w B (.slice a k cap) (xs.take k) := by
  have hn : n = xs.length := by obtain ⟨_, a', cap', hv, _⟩ := h; cases hv; rfl
  subst hn
  have e : (xs.take k).length = k := by simp; omega
  unfold Ints
  rw [e]
  exact (Row.take h hk).congr fun i hi => by rw [iget_take (by omega)]
/-- A slice of domains. -/
def Us (w : World) (B : Nat) (v : Value) (xs : List Nat) : Prop := Row w B 1 v xs.length (fun i => .int .u64 (nget xs i : Nat))
theorem Us.below {w w' : World} {B : Nat} {v : Value} {xs : List Nat} (h : Us w B v xs) {B' : Nat} (hb : Below B' w w') (hB : B ≤ B') : Us w' B v xs := Row.below h hb hB
theorem Us.mono {w : World} {B : Nat} {v : Value} {xs : List Nat} (h : Us w B v xs) {B' : Nat} (hB : B ≤ B') : Us w B' v xs := Row.mono h hB
theorem Us.slice {w : World} {B : Nat} {v : Value} {xs : List Nat} (h : Us w B v xs) : ∃ a c, v = .slice a xs.length c := by obtain ⟨_, a, cap, rfl, _⟩ := h; exact ⟨_, _, rfl⟩
theorem Ints.slice {w : World} {B : Nat} {v : Value} {xs : List Int} (h : Ints w B v xs) : ∃ a c, v = .slice a xs.length c := by obtain ⟨_, a, cap, rfl, _⟩ := h; exact ⟨_, _, rfl⟩
set_option maxRecDepth 100000 in
set_option maxHeartbeats 400000 in
theorem idxI (v : Value) (n : Nat) (c : Nat → Value) (g : Nat) (caps : Array Value) (p : Nat → Bool) (w : World) {B : Nat} (hr0 : Row w B 1 v n c) (hB : B ≤ w.heap.size)
   (hg : ∀ args w, (callFunc g args).run Tryz.prog w = .ok (.enter g args) w)
   (hf : ∀ k, k < n → ∀ w', Below w.heap.size w w' → Gives Tryz.prog g (#[c k] ++ caps) w' (.bool (p k))) :
    Gives Tryz.prog 135 #[v, .func (.func g) #[] caps] w (.int .i64 (idxOf p n)) := by
  obtain ⟨_, a, cap, rfl, hc, _, hr⟩ := hr0.mono hB
  clear hr0 hB
  unfold Gives
  go_enter Tryz.func135, Tryz.ntmps135
  have HF := Lib.hid hf; clear hf
  go_wp2
  go_loopw [8] (fun i wr => ∃ k : Nat, k ≤ n ∧ i = .int .i64 k ∧ (∀ j, j < k → p j = false) ∧ Below w.heap.size w wr)
    (fun i _ => n - (intOf i).toNat)
  case atStart => exact ⟨0, Nat.zero_le _, rfl, fun j hj => absurd hj (Nat.not_lt_zero _), Below.refl _ _⟩
  case round =>
    obtain ⟨k, hk, rfl, hall, hb⟩ := hrel
    by_cases hlt : k < n
    · obtain ⟨b, off, rfl, hbs, hcell⟩ := hr (by omega)
      have c0 : wr.cell? ⟨b, off + k, none⟩ = some (c k) := rowCell (i := k) hcell hb hbs _ (by omega) rfl rfl
      have Hall := Lib.hid hall
      clear hcell hr hall
      go_wp2_with fail
      refine (HF.out k hlt _ hb).mono ?_
      rintro e w2 ⟨rfl, hb2⟩
      have hb3 : Below w.heap.size w w2 := hb.trans (hb2.mono hb.size)
      cases hp : p k
      · go_wp2
        go_roundw
        case rel => exact ⟨k + 1, by omega, by go_num, fun j hj => if h : j = k then h ▸ hp else Hall.out j (by omega), hb3⟩
        case measure => simp [intOf]; omega
      · go_wp2
        go_ret
        exact ⟨by rw [idxOf_some hlt Hall.out hp]; rfl, hb3⟩
    · go_wp2
      go_ret
      have : k = n := by omega
      subst this
      exact ⟨by rw [idxOf_none hall]; rfl, hb⟩
theorem hasI (v : Value) (n : Nat) (c : Nat → Value) (g : Nat) (caps : Array Value) (p : Nat → Bool) (w : World) {B : Nat} (hr : Row w B 1 v n c) (hB : B ≤ w.heap.size)
   (hg : ∀ args w, (callFunc g args).run Tryz.prog w = .ok (.enter g args) w)
   (hf : ∀ k, k < n → ∀ w', Below w.heap.size w w' → Gives Tryz.prog g (#[c k] ++ caps) w' (.bool (p k))) :
    Gives Tryz.prog 114 #[v, .func (.func g) #[] caps] w (.bool ((List.range n).any p)) := by
  unfold Gives
  go_enter Tryz.func114, Tryz.ntmps114
  have HF := Lib.hid hf; clear hf
  go_wp2_with fail
  refine (idxI v n c g caps p _ hr hB hg HF.out).mono ?_
  rintro e w2 ⟨rfl, hb2⟩
  go_wp2
  go_ret
  exact ⟨by rw [← idxOf_any]; rfl, hb2⟩
set_option maxRecDepth 100000 in
set_option maxHeartbeats 400000 in
theorem idxR (v : Value) (n : Nat) (c : Nat → Value) (g : Nat) (caps : Array Value) (p : Nat → Bool) (w : World) {B : Nat} (hr0 : Row w B 4 v n c) (hB : B ≤ w.heap.size)
   (hg : ∀ args w, (callFunc g args).run Tryz.prog w = .ok (.enter g args) w)
   (hf : ∀ k, k < n → ∀ w', Below w.heap.size w w' → Gives Tryz.prog g (#[.agg #[c (k * 4), c (k * 4 + 1), c (k * 4 + 2), c (k * 4 + 3)]] ++ caps) w' (.bool (p k))) :
    Gives Tryz.prog 94 #[v, .func (.func g) #[] caps] w (.int .i64 (idxOf p n)) := by
  obtain ⟨_, a, cap, rfl, hc, _, hr⟩ := hr0.mono hB
  clear hr0 hB
  unfold Gives
  go_enter Tryz.func94, Tryz.ntmps94
  have HF := Lib.hid hf; clear hf
  go_wp2
  go_loopw [8] (fun i wr => ∃ k : Nat, k ≤ n ∧ i = .int .i64 k ∧ (∀ j, j < k → p j = false) ∧ Below w.heap.size w wr)
    (fun i _ => n - (intOf i).toNat)
  case atStart => exact ⟨0, Nat.zero_le _, rfl, fun j hj => absurd hj (Nat.not_lt_zero _), Below.refl _ _⟩
  case round =>
    obtain ⟨k, hk, rfl, hall, hb⟩ := hrel
    by_cases hlt : k < n
    · obtain ⟨b, off, rfl, hbs, hcell⟩ := hr (by omega)
      have c0 := rowCell (i := k * 4) hcell hb hbs _ (by omega) rfl rfl; have c1 : wr.cell? ⟨b, off + k * 4 + 1, none⟩ = some (c (k * 4 + 1)) := rowCell (i := k * 4 + 1) hcell hb hbs _ (by omega) rfl rfl; have c2 : wr.cell? ⟨b, off + k * 4 + 2, none⟩ = some (c (k * 4 + 2)) := rowCell (i := k * 4 + 2) hcell hb hbs _ (by omega) rfl rfl; have c3 : wr.cell? ⟨b, off + k * 4 + 3, none⟩ = some (c (k * 4 + 3)) := rowCell (i := k * 4 + 3) hcell hb hbs _ (by omega) rfl rfl
      have Hall := Lib.hid hall
      clear hcell hr hall
      go_wp2_with fail
      refine (HF.out k hlt _ hb).mono ?_
      rintro e w2 ⟨rfl, hb2⟩
      have hb3 : Below w.heap.size w w2 := hb.trans (hb2.mono hb.size)
      cases hp : p k
      · go_wp2
        go_roundw
        case rel => exact ⟨k + 1, by omega, by go_num, fun j hj => if h : j = k then h ▸ hp else Hall.out j (by omega), hb3⟩
        case measure => simp [intOf]; omega
      · go_wp2
        go_ret
        exact ⟨by rw [idxOf_some hlt Hall.out hp]; rfl, hb3⟩
    · go_wp2
      go_ret
      have : k = n := by omega
      subst this
      exact ⟨by rw [idxOf_none hall]; rfl, hb⟩
theorem hasR (v : Value) (n : Nat) (c : Nat → Value) (g : Nat) (caps : Array Value) (p : Nat → Bool) (w : World) {B : Nat} (hr : Row w B 4 v n c) (hB : B ≤ w.heap.size)
   (hg : ∀ args w, (callFunc g args).run Tryz.prog w = .ok (.enter g args) w)
   (hf : ∀ k, k < n → ∀ w', Below w.heap.size w w' → Gives Tryz.prog g (#[.agg #[c (k * 4), c (k * 4 + 1), c (k * 4 + 2), c (k * 4 + 3)]] ++ caps) w' (.bool (p k))) :
    Gives Tryz.prog 62 #[v, .func (.func g) #[] caps] w (.bool ((List.range n).any p)) := by
  unfold Gives
  go_enter Tryz.func62, Tryz.ntmps62
  have HF := Lib.hid hf; clear hf
  go_wp2_with fail
  refine (idxR v n c g caps p _ hr hB hg HF.out).mono ?_
  rintro e w2 ⟨rfl, hb2⟩
  go_wp2
  go_ret
  exact ⟨by rw [← idxOf_any]; rfl, hb2⟩
set_option maxRecDepth 100000 in
set_option maxHeartbeats 400000 in
theorem idxC (v : Value) (n : Nat) (c : Nat → Value) (g : Nat) (caps : Array Value) (p : Nat → Bool) (w : World) {B : Nat} (hr0 : Row w B 4 v n c) (hB : B ≤ w.heap.size)
   (hg : ∀ args w, (callFunc g args).run Tryz.prog w = .ok (.enter g args) w)
   (hf : ∀ k, k < n → ∀ w', Below w.heap.size w w' → Gives Tryz.prog g (#[.agg #[c (k * 4), c (k * 4 + 1), c (k * 4 + 2), c (k * 4 + 3)]] ++ caps) w' (.bool (p k))) :
    Gives Tryz.prog 116 #[v, .func (.func g) #[] caps] w (.int .i64 (idxOf p n)) := by
  obtain ⟨_, a, cap, rfl, hc, _, hr⟩ := hr0.mono hB
  clear hr0 hB
  unfold Gives
  go_enter Tryz.func116, Tryz.ntmps116
  have HF := Lib.hid hf; clear hf
  go_wp2
  go_loopw [8] (fun i wr => ∃ k : Nat, k ≤ n ∧ i = .int .i64 k ∧ (∀ j, j < k → p j = false) ∧ Below w.heap.size w wr)
    (fun i _ => n - (intOf i).toNat)
  case atStart => exact ⟨0, Nat.zero_le _, rfl, fun j hj => absurd hj (Nat.not_lt_zero _), Below.refl _ _⟩
  case round =>
    obtain ⟨k, hk, rfl, hall, hb⟩ := hrel
    by_cases hlt : k < n
    · obtain ⟨b, off, rfl, hbs, hcell⟩ := hr (by omega)
      have c0 := rowCell (i := k * 4) hcell hb hbs _ (by omega) rfl rfl; have c1 : wr.cell? ⟨b, off + k * 4 + 1, none⟩ = some (c (k * 4 + 1)) := rowCell (i := k * 4 + 1) hcell hb hbs _ (by omega) rfl rfl; have c2 : wr.cell? ⟨b, off + k * 4 + 2, none⟩ = some (c (k * 4 + 2)) := rowCell (i := k * 4 + 2) hcell hb hbs _ (by omega) rfl rfl; have c3 : wr.cell? ⟨b, off + k * 4 + 3, none⟩ = some (c (k * 4 + 3)) := rowCell (i := k * 4 + 3) hcell hb hbs _ (by omega) rfl rfl
      have Hall := Lib.hid hall
      clear hcell hr hall
      go_wp2_with fail
      refine (HF.out k hlt _ hb).mono ?_
      rintro e w2 ⟨rfl, hb2⟩
      have hb3 : Below w.heap.size w w2 := hb.trans (hb2.mono hb.size)
      cases hp : p k
      · go_wp2
        go_roundw
        case rel => exact ⟨k + 1, by omega, by go_num, fun j hj => if h : j = k then h ▸ hp else Hall.out j (by omega), hb3⟩
        case measure => simp [intOf]; omega
      · go_wp2
        go_ret
        exact ⟨by rw [idxOf_some hlt Hall.out hp]; rfl, hb3⟩
    · go_wp2
      go_ret
      have : k = n := by omega
      subst this
      exact ⟨by rw [idxOf_none hall]; rfl, hb⟩
theorem hasC (v : Value) (n : Nat) (c : Nat → Value) (g : Nat) (caps : Array Value) (p : Nat → Bool) (w : World) {B : Nat} (hr : Row w B 4 v n c) (hB : B ≤ w.heap.size)
   (hg : ∀ args w, (callFunc g args).run Tryz.prog w = .ok (.enter g args) w)
   (hf : ∀ k, k < n → ∀ w', Below w.heap.size w w' → Gives Tryz.prog g (#[.agg #[c (k * 4), c (k * 4 + 1), c (k * 4 + 2), c (k * 4 + 3)]] ++ caps) w' (.bool (p k))) :
    Gives Tryz.prog 83 #[v, .func (.func g) #[] caps] w (.bool ((List.range n).any p)) := by
  unfold Gives
  go_enter Tryz.func83, Tryz.ntmps83
  have HF := Lib.hid hf; clear hf
  go_wp2_with fail
  refine (idxC v n c g caps p _ hr hB hg HF.out).mono ?_
  rintro e w2 ⟨rfl, hb2⟩
  go_wp2
  go_ret
  exact ⟨by rw [← idxOf_any]; rfl, hb2⟩

set_option maxHeartbeats 400000 in
theorem index_ints (v : Value) (xs : List Int) (x : Int) (w : World) {B : Nat} (hr : Ints w B v xs) :
    Calls Tryz.prog 113 #[v, .int .i64 x] w fun e w' => e = .returned (.int .i64 (idxOf (fun k => iget xs k == x) xs.length)) ∧ w' = w := by
  obtain ⟨_, a, cap, rfl, hc, _, hr⟩ := hr
  go_enter Tryz.func113, Tryz.ntmps113
  go_wp2
  go_loop [8] (fun i => ∃ k : Nat, k ≤ xs.length ∧ i = .int .i64 k ∧ (∀ j, j < k → (iget xs j == x) = false))
    (fun i => xs.length - (intOf i).toNat)
  case atStart => exact ⟨0, Nat.zero_le _, rfl, fun j hj => absurd hj (Nat.not_lt_zero _)⟩
  case round =>
    obtain ⟨k, hk, rfl, hall⟩ := hrel
    by_cases hlt : k < xs.length
    · obtain ⟨b, off, rfl, hbs, hcell⟩ := hr (by omega)
      have c0 : w.cell? ⟨b, off + k, none⟩ = some (.int .i64 (iget xs k)) := hcell k (by omega)
      have Hall := Lib.hid hall
      clear hcell hr hall
      cases hp : (iget xs k == x)
      · go_wp2
        go_round
        case rel => exact ⟨k + 1, by omega, by go_num, fun j hj => if h : j = k then h ▸ hp else Hall.out j (by omega)⟩
        case measure => simp [intOf]; omega
      · go_wp2
        go_ret
        exact ⟨by rw [idxOf_some hlt Hall.out hp]; rfl, rfl⟩
    · go_wp2
      go_ret
      have : k = xs.length := by omega
      subst this
      exact ⟨by rw [idxOf_none hall]; rfl, rfl⟩
theorem iget_contains (xs : List Int) (x : Int) : (List.range xs.length).any (fun k => iget xs k == x) = ihas xs x := by
  unfold ihas
  rw [Bool.eq_iff_iff, List.any_eq_true, List.contains_iff_mem, List.mem_iff_getElem]
  constructor
  · rintro ⟨k, hk, h⟩
    have hk' := List.mem_range.1 hk
    exact ⟨k, hk', by simpa [iget, hk'] using h⟩
  · rintro ⟨k, hk, h⟩
    exact ⟨k, List.mem_range.2 hk, by simp [iget, hk, h]⟩
set_option maxHeartbeats 400000 in
theorem contains_ints (v : Value) (xs : List Int) (x : Int) (w : World) {B : Nat} (hr : Ints w B v xs) :
    Calls Tryz.prog 80 #[v, .int .i64 x] w fun e w' => e = .returned (.bool (ihas xs x)) ∧ w' = w := by
  go_enter Tryz.func80, Tryz.ntmps80
  go_wp2_with (go_at_call 113; refine (index_ints _ _ _ _ hr).mono ?_; rintro e w' ⟨rfl, rfl⟩)
  go_ret
  exact ⟨by rw [← iget_contains, ← idxOf_any]; rfl, rfl⟩
set_option maxHeartbeats 400000 in
theorem index_us (v : Value) (xs : List Nat) (x : Nat) (w : World) {B : Nat} (hr : Us w B v xs) :
    Calls Tryz.prog 93 #[v, .int .u64 (x : Nat)] w fun e w' => e = .returned (.int .i64 (idxOf (fun k => nget xs k == x) xs.length)) ∧ w' = w := by
  obtain ⟨_, a, cap, rfl, hc, _, hr⟩ := hr
  go_enter Tryz.func93, Tryz.ntmps93
  go_wp2
  go_loop [8] (fun i => ∃ k : Nat, k ≤ xs.length ∧ i = .int .i64 k ∧ (∀ j, j < k → (nget xs j == x) = false))
    (fun i => xs.length - (intOf i).toNat)
  case atStart => exact ⟨0, Nat.zero_le _, rfl, fun j hj => absurd hj (Nat.not_lt_zero _)⟩
  case round =>
    obtain ⟨k, hk, rfl, hall⟩ := hrel
    by_cases hlt : k < xs.length
    · obtain ⟨b, off, rfl, hbs, hcell⟩ := hr (by omega)
      have c0 : w.cell? ⟨b, off + k, none⟩ = some (.int .u64 (nget xs k : Nat)) := hcell k (by omega)
      have Hall := Lib.hid hall
      have hcast : (((nget xs k : Nat) : Int) == ((x : Nat) : Int)) = (nget xs k == x) := by rw [Bool.eq_iff_iff, beq_iff_eq, beq_iff_eq]; omega
      clear hcell hr hall
      cases hp : (nget xs k == x)
      · go_wp2
        go_round
        case rel => exact ⟨k + 1, by omega, by go_num, fun j hj => if h : j = k then h ▸ hp else Hall.out j (by omega)⟩
        case measure => simp [intOf]; omega
      · go_wp2
        go_ret
        exact ⟨by rw [idxOf_some hlt Hall.out hp]; rfl, rfl⟩
    · go_wp2
      go_ret
      have : k = xs.length := by omega
      subst this
      exact ⟨by rw [idxOf_none hall]; rfl, rfl⟩
theorem nget_contains (xs : List Nat) (x : Nat) : (List.range xs.length).any (fun k => nget xs k == x) = xs.contains x := by
  rw [Bool.eq_iff_iff, List.any_eq_true, List.contains_iff_mem, List.mem_iff_getElem]
  constructor
  · rintro ⟨k, hk, h⟩
    have hk' := List.mem_range.1 hk
    exact ⟨k, hk', by simpa [nget, hk'] using h⟩
  · rintro ⟨k, hk, h⟩
    exact ⟨k, List.mem_range.2 hk, by simp [nget, hk, h]⟩
set_option maxHeartbeats 400000 in
theorem contains_us (v : Value) (xs : List Nat) (x : Nat) (w : World) {B : Nat} (hr : Us w B v xs) :
    Calls Tryz.prog 60 #[v, .int .u64 (x : Nat)] w fun e w' => e = .returned (.bool (xs.contains x)) ∧ w' = w := by
  go_enter Tryz.func60, Tryz.ntmps60
  go_wp2_with (go_at_call 93; refine (index_us _ _ _ _ hr).mono ?_; rintro e w' ⟨rfl, rfl⟩)
  go_ret
  exact ⟨by rw [← nget_contains, ← idxOf_any]; rfl, rfl⟩
end Go.Proofs.YtdmmegmkdhinjaaGreatDoor

namespace Go.Proofs.YtdmmegmkdhinjaaGreatDoor
open Go Go.RowKit Go.Shelf
theorem wide_fn (f : FuncId) : Fence.wide.fn f = True := rfl
theorem wide_depth : Fence.wide.depth = none := rfl
attribute [local go_sem] Oper.semAt_some wide_fn wide_depth

/-- math/bits' table lies in its variable. -/
def Tab (w : World) : Prop := TabAt 0 Lib.deBruijn64tab w
theorem Tab.below {w w' : World} {B : Nat} (h : Tab w) (hb : Below B w w') (hB : 0 < B) : Tab w' := fun j hj => (hb.cell (p := ⟨0, j, none⟩) hB).trans (h j hj)

set_option maxRecDepth 100000 in
set_option maxHeartbeats 1000000 in
theorem tz64_core (x k idx : Nat) (w : World) (hx0 : ((x : Int) == 0) = false)
    (key : IntKind.u64.wrap (bits BinOp.and IntKind.u64 (x : Int) (IntKind.u64.wrap (-(x : Int))) * 285870213051353865) / 288230376151711744 = (idx : Int))
    (hi : idx < 64) (hk : k < 64) (hcell : w.cell? ⟨0, idx, none⟩ = some (.int .u8 k)) :
    Calls Tryz.prog 108 #[.int .u64 x] w fun e w' => e = .returned (.int .i64 k) ∧ w' = w := by
  go_enter Tryz.func108, Tryz.ntmps108
  go_wp2_with (simp only [key])
  go_ret
  exact ⟨rfl, rfl⟩
theorem tz64_any (x : Nat) (hx : U64 x) (hx0 : x ≠ 0) (w : World) (hT : Tab w) :
    Calls Tryz.prog 108 #[.int .u64 x] w fun e w' => e = .returned (.int .i64 (ctzN x : Nat)) ∧ w' = w := by
  obtain ⟨hlow, hk⟩ := Lib.lowest_bit 64 x hx0 hx
  obtain ⟨hi, htab⟩ := Lib.deBruijn64_at _ hk
  have hcell := hT _ hi
  rw [htab] at hcell
  exact tz64_core x _ _ w (by simpa using hx0) (by rw [tz64_key x _ hx hx0 hlow]) hi hk hcell

/-! the elements of a set, increasing -/

def pred1 (m : Nat) : Nat := m - 1
theorem filter_first {p q : Nat → Bool} {n k : Nat} (hk : k < n) (hp : p k = true) (hlt : ∀ i, i < k → p i = false) (hq : ∀ i, q i = (p i && !decide (i = k))) :
    (List.range n).filter p = k :: (List.range n).filter q := by
  have e1 : List.range' 0 (k + (n - k)) = List.range' 0 k ++ List.range' k (n - k) := by rw [← List.range'_append_1]; simp
  have e2 : List.range' k (n - k) = k :: List.range' (k + 1) (n - k - 1) := by
    obtain ⟨d, hd⟩ : ∃ d, n - k = d + 1 := ⟨n - k - 1, by omega⟩
    rw [hd, List.range'_succ]; rfl
  have e : List.range n = List.range k ++ k :: List.range' (k + 1) (n - k - 1) := by
    rw [List.range_eq_range', List.range_eq_range', ← e2, ← e1, show k + (n - k) = n by omega]
  rw [e, List.filter_append, List.filter_append, List.filter_cons, List.filter_cons]
  have h1 : (List.range k).filter p = [] := List.filter_eq_nil_iff.2 fun i hi => by rw [hlt i (List.mem_range.1 hi)]; decide
  have h2 : (List.range k).filter q = [] := List.filter_eq_nil_iff.2 fun i hi => by rw [hq, hlt i (List.mem_range.1 hi)]; simp
  have h3 : (List.range' (k + 1) (n - k - 1)).filter p = (List.range' (k + 1) (n - k - 1)).filter q := List.filter_congr fun i hi => by
    have := (List.mem_range'_1.1 hi).1
    rw [hq, decide_eq_false (by omega)]; simp
  rw [h1, h2, h3, hq k, hp]
  simp
theorem elems_zero : elems 0 = [] := by unfold elems; exact List.filter_eq_nil_iff.2 fun i _ => by simp
theorem and_pred_testBit (m : Nat) (h0 : m ≠ 0) (hu : U64 m) (i : Nat) : (sAnd m (pred1 m)).testBit i = (m.testBit i && !decide (i = ctzN m)) ∧ (i < ctzN m → m.testBit i = false) ∧ m.testBit (ctzN m) = true := by
  have hc : ctzN m = Lib.ctzFrom 64 m := by unfold ctzN Lib.ctz; rw [if_neg h0]
  obtain ⟨q, hq, _⟩ := Lib.ctzFrom_spec 64 m (by omega) hu
  rw [← hc] at hq
  generalize ctzN m = k at hq
  have hp := Nat.two_pow_pos k
  have e1 : m = 2 ^ (k + 1) * q + 2 ^ k := by rw [hq, Nat.mul_add, Nat.mul_one, Nat.pow_succ]; congr 1; rw [Nat.mul_assoc]
  have e2 : pred1 m = 2 ^ (k + 1) * q + (2 ^ k - 1) := by unfold pred1; omega
  have b1 : ∀ j, m.testBit j = if j < k + 1 then (2 ^ k).testBit j else q.testBit (j - (k + 1)) := fun j => by rw [e1]; exact Nat.testBit_two_pow_mul_add _ (by rw [Nat.pow_succ]; omega) _
  have b2 : ∀ j, (pred1 m).testBit j = if j < k + 1 then (2 ^ k - 1).testBit j else q.testBit (j - (k + 1)) := fun j => by rw [e2]; exact Nat.testBit_two_pow_mul_add _ (by rw [Nat.pow_succ]; omega) _
  refine ⟨?_, fun hi => ?_, ?_⟩
  · rw [sAnd_testBit, b1, b2]
    by_cases hi : i < k + 1
    · rw [if_pos hi, if_pos hi, Nat.testBit_two_pow, Nat.testBit_two_pow_sub_one]
      by_cases hik : i = k
      · subst hik; simp
      · have : k ≠ i := fun h => hik h.symm
        simp [hik, this]
    · rw [if_neg hi, if_neg hi]
      have : i ≠ k := by omega
      simp [this]
  · rw [b1, if_pos (by omega), Nat.testBit_two_pow]; simp; omega
  · rw [b1, if_pos (by omega), Nat.testBit_two_pow]; simp
theorem ctzN_lt {m : Nat} (h0 : m ≠ 0) (hu : U64 m) : ctzN m < 64 := (Lib.lowest_bit 64 m h0 hu).2
theorem elems_step {m : Nat} (h0 : m ≠ 0) (hu : U64 m) : elems m = ctzN m :: elems (sAnd m (pred1 m)) :=
  filter_first (ctzN_lt h0 hu) ((and_pred_testBit m h0 hu 0).2.2) (fun i hi => (and_pred_testBit m h0 hu i).2.1 hi) (fun i => (and_pred_testBit m h0 hu i).1)
theorem sAnd_pred_lt {m : Nat} (h0 : m ≠ 0) : sAnd m (pred1 m) < m := Nat.lt_of_le_of_lt Nat.and_le_right (by unfold pred1; omega)
theorem pred1_u64 {m : Nat} (hu : U64 m) : U64 (pred1 m) := Nat.lt_of_le_of_lt (Nat.sub_le _ _) hu
theorem wrap_pred {m : Nat} (h0 : m ≠ 0) (hu : U64 m) : IntKind.u64.wrap ((m : Int) - 1) = ((pred1 m : Nat) : Int) := by
  have hu' : m < 18446744073709551616 := hu
  rw [IntKind.wrap_u64]; unfold pred1; omega
def cellN (w : World) (b : Nat) : Nat := match w.cell? ⟨b, 0, none⟩ with | some (.int _ n) => n.toNat | _ => 0
theorem cellN_eq {w : World} {b m : Nat} {k : IntKind} (h : w.cell? ⟨b, 0, none⟩ = some (.int k (m : Nat))) : cellN w b = m := by unfold cellN; rw [h]; simp

set_option maxRecDepth 100000 in
set_option maxHeartbeats 1000000 in
/-- The iterator, for every loop body. -/
theorem elements1_in (n l Bs s : Nat) (hs : U64 s) (J Jx : List Nat → World → Prop)
    (hset : ∀ pre W v, J pre W → J pre (W.setCell ⟨Bs, 0, none⟩ v)) (hT : ∀ pre W, J pre W → Tab W) (_hB0 : Bs ≠ 0)
    (hY : ∀ (pre : List Nat) (x : Nat) (rest : List Nat) (W : World), elems s = pre ++ x :: rest → J pre W → YieldAt Fence.wide (n - 1) Tryz.prog l #[.int .i64 (x : Nat)] W fun e W' =>
      (e = .returned (.bool true) ∧ J (pre ++ [x]) W' ∧ W'.cell? ⟨Bs, 0, none⟩ = W.cell? ⟨Bs, 0, none⟩ ∧ W'.frozen? ⟨Bs, 0, none⟩ = W.frozen? ⟨Bs, 0, none⟩) ∨ (e = .returned (.bool false) ∧ Jx (pre ++ [x]) W'))
    (W : World) (hc : W.cell? ⟨Bs, 0, none⟩ = some (.int .u64 (s : Nat))) (hf : W.frozen? ⟨Bs, 0, none⟩ = false) (h0 : J [] W) :
    CallsIn Fence.wide n Tryz.prog 107 #[.func (.yield l) #[] #[], .pointer (some ⟨Bs, 0, none⟩)] W fun e W' => (∃ v, e = .returned v) ∧ (J (elems s) W' ∨ ∃ pre, Jx pre W') := by
  refine callsIn_of_wp Tryz.func107 rfl trivial ?_ rfl
  simp only [Tryz.ntmps107, List.size_toArray, List.length_cons, List.length_nil, Nat.reduceAdd, Nat.reduceSub, Array.replicate_succ, Array.replicate_zero, List.push_toArray, List.append_toArray, List.nil_append, List.cons_append]
  have HY := Lib.hid hY; have HT := Lib.hid hT; have HSet := Lib.hid hset
  clear hY hT hset
  gi_wp2
  gi_loopw [3] (fun _ wr => ∃ (pre : List Nat) (m : Nat), elems s = pre ++ elems m ∧ U64 m ∧ wr.cell? ⟨Bs, 0, none⟩ = some (.int .u64 (m : Nat)) ∧ wr.frozen? ⟨Bs, 0, none⟩ = false ∧ J pre wr) (fun _ wr => cellN wr Bs)
  case atStart => exact ⟨[], s, rfl, hs, hc, hf, h0⟩
  case round =>
    obtain ⟨pre, m, he, hm, hcm, hfm, hj⟩ := hrel
    by_cases hm0 : m = 0
    · subst hm0
      have hm0 : ((0 : Nat) : Int) = 0 := rfl
      gi_wp2
      go_end0
      exact ⟨⟨_, rfl⟩, .inl (by rw [he, elems_zero, List.append_nil]; exact hj)⟩
    · have ne1 : ((m : Int) == 0) = false := by simpa using hm0
      have ne2 : ((m : Int) != 0) = true := by simpa using hm0
      have hT0 := HT.out _ _ hj
      have hst := elems_step hm0 hm
      obtain ⟨fn, tmps, assign, body, hy, hR⟩ := HY.out pre (ctzN m) _ wr (by rw [he, hst]) hj
      have HE := Lib.hid he; have HSt := Lib.hid hst; have HT0 := Lib.hid hT0; have HR := Lib.hid hR
      clear he hst hT0 hR
      gi_wp2_with (gi_at_call 108; refine (callsIn_wide.2 (tz64_any m hm hm0 _ HT0.out)).mono ?_; rintro e w' ⟨rfl, rfl⟩)
      refine HR.out.mono ?_
      rintro e W' (⟨rfl, hJ', hk1, hk2⟩ | ⟨rfl, hJx'⟩)
      · have c2 := hk1.trans hcm
        have f2 := hk2.trans hfm
        have wp := wrap_pred hm0 hm
        have ap := u64_sAnd hm (pred1_u64 hm)
        clear hk1 hk2
        gi_wp2
        have hset := World.cell?_setCell_same W' ⟨Bs, 0, none⟩ (.int .u64 ((sAnd m (pred1 m) : Nat) : Int)) c2
        refine ⟨⟨pre ++ [ctzN m], sAnd m (pred1 m), by rw [HE.out, HSt.out, List.append_assoc]; rfl, hm.and (pred1_u64 hm), hset, by rw [World.frozen?_setCell]; exact f2, HSet.out _ _ _ hJ'⟩, ?_⟩
        rw [cellN_eq hset, cellN_eq hcm]; exact sAnd_pred_lt hm0
      · gi_wp2
        exact bodyPost_ret (results_none rfl _ _ _) rfl ⟨⟨_, rfl⟩, .inr ⟨_, hJx'⟩⟩

/-! the loop -/
/-- What the loop's own book-keeping may turn: block Bs (the iterator's set), and objects that are no cells from block L on. -/
structure Touched (Bs L : Nat) (W W' : World) : Prop where
  os : W'.os = W.os
  tape : W'.tape = W.tape
  output : W'.output = W.output
  size : W.heap.size ≤ W'.heap.size
  same : ∀ k o, W.heap[k]? = some o → k ≠ Bs → (k < L ∨ o.isCells = true) → W'.heap[k]? = some o
/-- What a round's body must keep: the iterator's set, and objects that are no cells from block L on. -/
def Keep (Bs L : Nat) (W W' : World) : Prop := ∀ k o, W.heap[k]? = some o → (k = Bs ∨ (L ≤ k ∧ o.isCells = false)) → W'.heap[k]? = some o
theorem Keep.refl (Bs L : Nat) (W : World) : Keep Bs L W W := fun _ _ h _ => h
theorem Keep.trans {Bs L : Nat} {A B C : World} (h : Keep Bs L A B) (h' : Keep Bs L B C) : Keep Bs L A C := fun k o hk hc => h' k o (h k o hk hc) hc
theorem Keep.below {Bs L : Nat} {A B C : World} (h : Keep Bs L A B) (hb : Below B.heap.size B C) : Keep Bs L A C := fun k o hk hc => by
  have h1 := h k o hk hc
  exact (hb.block k (Array.getElem?_eq_some_iff.1 h1).1).trans h1
theorem Keep.alloc {Bs L : Nat} {A B : World} (h : Keep Bs L A B) (o : Obj) : Keep Bs L A (B.alloc o) := h.below (Below.new1 _ _)
theorem Keep.setCell {Bs L : Nat} {A B : World} (h : Keep Bs L A B) {p : Addr} (hp : p.block ≠ Bs) (v : Value) : Keep Bs L A (B.setCell p v) := fun k o hk hc => by
  have h1 := h k o hk hc
  by_cases hkp : k = p.block
  · subst hkp
    rcases hc with hc | hc
    · exact absurd hc hp
    · simp only [World.setCell, Array.getElem?_modify, if_true, h1, Option.map_some]
      cases o <;> first | rfl | (simp [Obj.isCells] at hc)
  · exact (Below.heap_setCell _ _ _ _ hkp).trans h1
theorem Keep.setCells {Bs L : Nat} {A : World} {b : Nat} (hb : b ≠ Bs) : ∀ (vs : List Value) (o : Nat) (B : World), Keep Bs L A B → Keep Bs L A (B.setCells b o vs)
  | [], _, _, h => h
  | v :: vs, o, _, h => Keep.setCells hb vs (o + 1) _ (h.setCell (p := ⟨b, o, none⟩) hb v)
def elemPost (Bs L : Nat) (I : List Nat → World → Prop) (Ix : Code → List Nat → World → Prop) (xs : List Nat) (W : World) : Exit → Act → World → Prop
  | .normal, _, W' => Keep Bs L W W' ∧ I xs W'
  | .ret, _, W' => Keep Bs L W W' ∧ Ix .ret xs W'
  | .exit id, _, W' => Keep Bs L W W' ∧ Ix (.exit id) xs W'
  | _, _, _ => False
theorem touched_putObj {Bs L l : Nat} {W : World} {o o' : Obj} (hl : W.heap[l]? = some o) (ho : o.isCells = false) (hL : L ≤ l) : Touched Bs L W (W.putObj l o') :=
  ⟨rfl, rfl, rfl, by simp, fun k q hk _ hc => by
    rw [World.putObj_heap_other (fun e => by subst e; rw [hl] at hk; cases hk; exact hc.elim (fun h => by omega) (fun h => by rw [ho] at h; cases h))]; exact hk⟩
theorem touched_alloc {Bs L : Nat} {W : World} (o : Obj) : Touched Bs L W (W.alloc o) :=
  ⟨rfl, rfl, rfl, by simp, fun k q hk _ _ => (Below.heap_alloc _ _ _ (Array.getElem?_eq_some_iff.1 hk).1).trans hk⟩
theorem touched_setCell {Bs L : Nat} {W : World} (v : Value) : Touched Bs L W (W.setCell ⟨Bs, 0, none⟩ v) :=
  ⟨rfl, rfl, rfl, by simp [World.setCell], fun k q hk hne _ => (Below.heap_setCell _ _ _ _ hne).trans hk⟩

set_option maxRecDepth 100000 in
set_option maxHeartbeats 1000000 in
/-- Block b holds one number of 64 bits. -/
def U64At (b : Nat) (W : World) : Prop := ∃ c, W.heap[b]? = some (.cells c 56 (0, 0))
theorem U64At.lt {b : Nat} {W : World} (h : U64At b W) : b < W.heap.size := let ⟨_, h⟩ := h; (Array.getElem?_eq_some_iff.1 h).1
theorem U64At.setCell {b : Nat} {W : World} (h : U64At b W) (p : Addr) (v : Value) : U64At b (W.setCell p v) := by
  obtain ⟨c, h⟩ := h
  by_cases hb : p.block = b
  · subst hb
    simp only [U64At, World.setCell, Array.getElem?_modify, if_true, h, Option.map_some]
    exact ⟨_, rfl⟩
  · exact ⟨c, (Below.heap_setCell _ _ _ _ (fun hh => hb hh.symm)).trans h⟩
theorem U64At.same {b : Nat} {W W' : World} (h : U64At b W) (e : ∀ o, W.heap[b]? = some o → W'.heap[b]? = some o) : U64At b W' := let ⟨c, h⟩ := h; ⟨c, e _ h⟩
theorem rangeElems {n : Nat} {g : Operand} {p : Tmp} {assign body : Code} {Q : Exit → Act → World → Prop} {a : Act} {w : World} (Bs s : Nat)
    (hg : a.eval g = .func (.func 107) #[] #[.pointer (some ⟨Bs, 0, none⟩)]) (hs : U64 s)
    (hc : w.heap[Bs]? = some (.cells #[.int .u64 (s : Nat)] 56 (0, 0))) (hB0 : Bs ≠ 0)
    (I : List Nat → World → Prop) (Ix : Code → List Nat → World → Prop)
    (hI : ∀ pre W W', I pre W → Touched Bs w.heap.size W W' → I pre W') (hIx : ∀ c pre W W', Ix c pre W → Touched Bs w.heap.size W W' → Ix c pre W')
    (hT : ∀ pre W, I pre W → Tab W) (h0 : I [] w)
    (hround : ∀ (l : Nat) (pre : List Nat) (x : Nat) (rest : List Nat) (W : World), elems s = pre ++ x :: rest → assign.wpIn (Fence.wide.inRound l) (n - 1 - 1) Tryz.prog
      (Exit.then (fun a' W' => W' = W ∧ ∀ W2, I pre W2 → U64At Bs W2 → w.heap.size ≤ W2.heap.size → body.wpIn (Fence.wide.inRound l) (n - 1 - 1) Tryz.prog (elemPost Bs w.heap.size I Ix (pre ++ [x]) W2) a' W2) (fun _ _ _ => False))
      { tmps := ((#[p] : Array Tmp).zip #[Value.int .i64 (x : Nat)]).foldl (fun t (p, v) => t.setIfInBounds p v) a.tmps, defers := [] } W)
    (hdone : ∀ (D : Nat) (W : World), w.heap.size ≤ D → I (elems s) W → W.heap[D]? = some (.deferred (some [])) → Q .normal { a with defers := { target := .collected D, args := #[] } :: a.defers } W)
    (hstop : ∀ (D : Nat) (c : Code) (pre : List Nat) (W : World), w.heap.size ≤ D → Ix c pre W → W.heap[D]? = some (.deferred (some [])) → c.wpIn Fence.wide n Tryz.prog Q { a with defers := { target := .collected D, args := #[] } :: a.defers } W) :
    (Code.rangeFunc g #[p] assign body).wpIn Fence.wide n Tryz.prog Q a w := by
  refine wpIn_rangeFunc ?_
  intro fn hfn
  have eg : ∀ args w, (callFunc 107 args).run Tryz.prog w = .ok (.enter 107 args) w := enters_of Tryz.func107 (by kernel_rfl) rfl
  obtain ⟨rec, hrec⟩ : ∃ rec : LoopState → Option Code → Loop, rec = fun st pe => { state := st, pending := pe, fn, tmps := a.tmps, params := #[p], assign, body, defers := w.heap.size } := ⟨_, rfl⟩
  have hBs : Bs < w.heap.size := (Array.getElem?_eq_some_iff.1 hc).1
  obtain ⟨W1, hW1⟩ : ∃ W1, (w.alloc (.deferred (some []))).alloc (.loop (rec .ready none)) = W1 := ⟨_, rfl⟩
  have hL1 : W1.heap[w.heap.size + 1]? = some (.loop (rec .ready none)) := by rw [← hW1]; exact (heap_new2 _ _ _).2
  have hK1 : W1.heap[w.heap.size]? = some (.deferred (some [])) := by rw [← hW1]; exact (heap_new2 _ _ _).1
  have hI1 : I [] W1 := by rw [← hW1]; exact hI _ _ _ (hI _ _ _ h0 (touched_alloc _)) (touched_alloc _)
  have hc1 : W1.heap[Bs]? = some (.cells #[.int .u64 (s : Nat)] 56 (0, 0)) := by rw [← hW1]; exact heap_old (heap_old hc)
  have hs1 : W1.heap.size = w.heap.size + 2 := by rw [← hW1]; simp
  refine ⟨w.heap.size + 1, [{ target := .collected w.heap.size, args := #[] }], W1, { target := .fn (.func 107) #[.pointer (some ⟨Bs, 0, none⟩)], args := #[.func (.yield (w.heap.size + 1)) #[] #[]] }, W1, 107,
    #[.func (.yield (w.heap.size + 1)) #[] #[]] ++ #[.pointer (some ⟨Bs, 0, none⟩)], W1, ?_, ?_, ?_, ?_, (fun h => by cases h), ?_⟩
  · rw [← hW1, hrec]; exact run_enterLoop_outer _ _ _ _ _
  · simp only [resolve, hg]
    simp [go_sem]
  · intro f' _; trivial
  · simp [invoke, go_sem, eg]
  · refine (elements1_in (n - 1) (w.heap.size + 1) Bs s hs
      (fun pre W => I pre W ∧ W.heap[w.heap.size + 1]? = some (.loop (rec .ready none)) ∧ W.heap[w.heap.size]? = some (.deferred (some [])) ∧ U64At Bs W)
      (fun pre W => ∃ c, Ix c pre W ∧ W.heap[w.heap.size + 1]? = some (.loop (rec .done (some c))) ∧ W.heap[w.heap.size]? = some (.deferred (some [])))
      (fun pre W v ⟨h1, h2, h3, h4⟩ => ⟨hI _ _ _ h1 (touched_setCell v), (Below.heap_setCell _ _ _ _ (by show w.heap.size + 1 ≠ Bs; omega)).trans h2, (Below.heap_setCell _ _ _ _ (by show w.heap.size ≠ Bs; omega)).trans h3, h4.setCell _ _⟩)
      (fun pre W h => hT _ _ h.1) hB0 ?_ W1 ?_ ?_ ⟨hI1, hL1, hK1, ⟨_, hc1⟩⟩).mono ?_
    · -- one round
      rintro pre x rest W he ⟨hi, hl, hk, hbs⟩
      have hlt : w.heap.size + 1 < W.heap.size := (Array.getElem?_eq_some_iff.1 hl).1
      have hy := run_yield (P := Tryz.prog) (args := #[.int .i64 (x : Nat)]) hl (by rw [hrec]; rfl)
      rw [hrec] at hy
      refine ⟨fn, _, assign, body, hy, roundIn_of_wpIn hfn ?_⟩
      refine wpIn_mono (hround _ pre x rest W he) ?_
      rintro e a1 W' hp0
      cases e
      case exit | goto | ret | panic | outgrown => exact hp0.elim
      obtain ⟨rfl, hbody⟩ := hp0
      refine ⟨_, run_beginRound hl (by rw [hrec]), ?_⟩
      have hl2 : (W'.putObj (w.heap.size + 1) (.loop { rec .ready none with state := .busy })).heap[w.heap.size + 1]? = some (.loop { rec .ready none with state := .busy }) := World.putObj_heap_same hlt
      have hk2 : (W'.putObj (w.heap.size + 1) (.loop { rec .ready none with state := .busy })).heap[w.heap.size]? = some (.deferred (some [])) := (World.putObj_heap_other (by omega)).trans hk
      refine wpIn_mono (hbody _ (hI _ _ _ hi (touched_putObj hl rfl (by omega))) (hbs.same fun o ho => (World.putObj_heap_other (by omega)).trans ho) (by simp; omega)) ?_
      have fin : ∀ (jump : Option Code) (W3 : World), Keep Bs w.heap.size (W'.putObj (w.heap.size + 1) (.loop { rec .ready none with state := .busy })) W3 →
          (Instr.endRound (w.heap.size + 1) jump).run Tryz.prog W3 = .ok (.bool jump.isNone) (W3.putObj (w.heap.size + 1) (.loop (rec (if jump.isNone then .ready else .done) jump))) ∧
          W3.heap[w.heap.size + 1]? = some (.loop { rec .ready none with state := .busy }) ∧
          (W3.putObj (w.heap.size + 1) (.loop (rec (if jump.isNone then .ready else .done) jump))).heap[w.heap.size + 1]? = some (.loop (rec (if jump.isNone then .ready else .done) jump)) ∧
          (W3.putObj (w.heap.size + 1) (.loop (rec (if jump.isNone then .ready else .done) jump))).heap[w.heap.size]? = some (.deferred (some [])) ∧
          (∀ o', W'.heap[Bs]? = some o' → (W3.putObj (w.heap.size + 1) (.loop (rec (if jump.isNone then .ready else .done) jump))).heap[Bs]? = some o') := fun jump W3 hk3 => by
        have hl3 := hk3 _ _ hl2 (.inr ⟨by omega, rfl⟩)
        have := run_endRound (P := Tryz.prog) jump hl3
        rw [hrec] at this ⊢
        refine ⟨this, by rw [hrec] at hl3; exact hl3, World.putObj_heap_same (Array.getElem?_eq_some_iff.1 hl3).1, (World.putObj_heap_other (by omega)).trans (hk3 _ _ hk2 (.inr ⟨Nat.le_refl _, rfl⟩)), fun o' ho' => ?_⟩
        exact (World.putObj_heap_other (by omega)).trans (hk3 _ _ ((World.putObj_heap_other (by omega)).trans ho') (.inl rfl))
      obtain ⟨ob, hob⟩ : ∃ o, W'.heap[Bs]? = some o := ⟨_, Array.getElem?_eq_getElem hbs.lt⟩
      rintro e a3 W3 hp
      cases e with
      | normal =>
        obtain ⟨hk3, hi3⟩ := hp
        obtain ⟨hr, hl3, hl4, hk4, hb4⟩ := fin none W3 hk3
        have hb5 := hb4 _ hob
        refine ⟨_, _, hr, .inl ⟨rfl, ⟨hI _ _ _ hi3 (touched_putObj hl3 rfl (by omega)), hl4, hk4, hbs.same hb4⟩, ?_, ?_⟩⟩
        · simp only [World.cell?, hb5, hob]
        · simp only [World.frozen?, hb5, hob]
      | ret =>
        obtain ⟨hk3, hi3⟩ := hp
        obtain ⟨hr, hl3, hl4, hk4, _⟩ := fin (some .ret) W3 hk3
        exact ⟨_, _, hr, .inr ⟨rfl, .ret, hIx _ _ _ _ hi3 (touched_putObj hl3 rfl (by omega)), hl4, hk4⟩⟩
      | exit id =>
        obtain ⟨hk3, hi3⟩ := hp
        obtain ⟨hr, hl3, hl4, hk4, _⟩ := fin (some (.exit id)) W3 hk3
        exact ⟨_, _, hr, .inr ⟨rfl, .exit id, hIx _ _ _ _ hi3 (touched_putObj hl3 rfl (by omega)), hl4, hk4⟩⟩
      | goto t => exact hp.elim
      | panic ch => exact hp.elim
      | outgrown => exact hp.elim
    · rw [cell_of_row W1 Bs 0 _ _ _ hc1]; rfl
    · simp [World.frozen?, hc1]
    · rintro e W2 ⟨⟨v, rfl⟩, (⟨hi, hl, hk, _⟩ | ⟨pre, c, hi, hl, hk⟩)⟩
      · exact ⟨none, _, by have := run_endLoop (P := Tryz.prog) hl (by rw [hrec]; simp); rw [hrec] at this; exact this, hdone _ _ (Nat.le_refl _) (hI _ _ _ hi (touched_putObj hl rfl (by omega))) ((World.putObj_heap_other (by omega)).trans hk)⟩
      · exact ⟨some c, _, by have := run_endLoop (P := Tryz.prog) hl (by rw [hrec]; simp); rw [hrec] at this; exact this, hstop _ c pre _ (Nat.le_refl _) (hIx _ _ _ _ hi (touched_putObj hl rfl (by omega))) ((World.putObj_heap_other (by omega)).trans hk)⟩
end Go.Proofs.YtdmmegmkdhinjaaGreatDoor

namespace Go.Proofs.YtdmmegmkdhinjaaGreatDoor
open Go Go.RowKit

theorem wrap_bit (e : Nat) (h : e < 64) : IntKind.u64.wrap (2 ^ e) = ((bitN e : Nat) : Int) := by
  have hb : U64 (bitN e) := U64.bit h
  have : (2 : Int) ^ e = ((bitN e : Nat) : Int) := by unfold bitN; simp
  rw [this, IntKind.wrap_u64]
  have hb' : bitN e < 18446744073709551616 := hb
  omega
theorem below_setCells {B : Nat} {a : World} {b : Nat} (hB : B ≤ b) : ∀ (vs : List Value) (o : Nat) (w : World), Below B a w → Below B a (w.setCells b o vs)
  | [], _, _, h => h
  | v :: vs, o, _, h => below_setCells hB vs (o + 1) _ (h.setCell (p := ⟨b, o, none⟩) hB v)
/-- The n cells from offset o of block b on; whether they are there. -/
def rowOf (w : World) (b o n : Nat) : List Value := (List.range n).map fun j => (w.cell? ⟨b, o + j, none⟩).getD undef
def rowOk (w : World) (b o n : Nat) : Bool := (List.range n).all fun j => (w.cell? ⟨b, o + j, none⟩).isSome
theorem row_range {w : World} {b o n : Nat} (h : rowOk w b o n = true) : w.rangeAt b o (rowOf w b o n) := fun j v hv => by
  have hj : j < n := by have := (List.getElem?_eq_some_iff.1 hv).1; simpa [rowOf] using this
  have h1 := List.all_eq_true.1 h j (List.mem_range.2 hj)
  obtain ⟨u, hu⟩ := Option.isSome_iff_exists.1 h1
  simp only [rowOf, List.getElem?_map, List.getElem?_range hj, Option.map_some, hu, Option.getD_some, Option.some.injEq] at hv
  rw [hu, hv]
theorem row_of_range {w : World} {b o : Nat} {cs : List Value} (h : w.rangeAt b o cs) : rowOf w b o cs.length = cs ∧ rowOk w b o cs.length = true := by
  constructor
  · apply List.ext_getElem?
    intro j
    by_cases hj : j < cs.length
    · simp only [rowOf, List.getElem?_map, List.getElem?_range hj, Option.map_some, h j _ (List.getElem?_eq_getElem hj), Option.getD_some, List.getElem?_eq_getElem hj]
    · rw [List.getElem?_eq_none (by simp [rowOf]; omega), List.getElem?_eq_none (by omega)]
  · unfold rowOk
    rw [List.all_eq_true]
    intro j hj
    rw [h j _ (List.getElem?_eq_getElem (List.mem_range.1 hj))]; rfl
theorem rowOf_congr {w w' : World} {b : Nat} (h : ∀ o, w'.cell? ⟨b, o, none⟩ = w.cell? ⟨b, o, none⟩) (o n : Nat) : rowOf w' b o n = rowOf w b o n ∧ rowOk w' b o n = rowOk w b o n := by
  unfold rowOf rowOk; constructor <;> simp only [h]
open Go.Sort in
theorem rowOf_grow {w : World} {d : Nat} {os : Array Obj} (b o n : Nat) (h : b < w.heap.size) : rowOf (grow (redrawn w d) os) b o n = rowOf w b o n := (rowOf_congr (fun q => cell_grow b q h) o n).1
open Go.Sort in
theorem rowOk_grow {w : World} {d : Nat} {os : Array Obj} (b o n : Nat) (h : b < w.heap.size) : rowOk (grow (redrawn w d) os) b o n = rowOk w b o n := (rowOf_congr (fun q => cell_grow b q h) o n).2
theorem rowOf_alloc {w : World} (ob : Obj) (b o n : Nat) (h : b < w.heap.size) : rowOf (w.alloc ob) b o n = rowOf w b o n := (rowOf_congr (fun q => (bcell (Below.new1 w ob)).1 b q h) o n).1
theorem rowOk_alloc {w : World} (ob : Obj) (b o n : Nat) (h : b < w.heap.size) : rowOk (w.alloc ob) b o n = rowOk w b o n := (rowOf_congr (fun q => (bcell (Below.new1 w ob)).1 b q h) o n).2
theorem row_below {w w' : World} {B b o n : Nat} (hb : Below B w w') (h : b < B) : rowOf w' b o n = rowOf w b o n ∧ rowOk w' b o n = rowOk w b o n := rowOf_congr (fun q => (bcell hb).1 b q h) o n
theorem rowOf_length (w : World) (b o n : Nat) : (rowOf w b o n).length = n := by simp [rowOf]
theorem heap_later {w w' : World} {B b : Nat} {o : Obj} (h : w.heap[b]? = some o) (hb : Below B w w') (hB : b < B) : w'.heap[b]? = some o := (hb.block b hB).trans h
theorem fresh_there {w : World} {b : Nat} {z : Array Value} {t : TypeId} {n : Nat} (h : w.heap[b]? = some (.cells z t (0, 0))) (hz : z.size = n) : w.there b 0 n := fun j hj => by
  constructor
  · rw [Nat.zero_add, cell_of_row w b j z t (0, 0) h]; simp [hz, hj]
  · simp [World.frozen?, h]
theorem ownsRow_row {w : World} {base : Nat} {e : TypeId} {sz : Nat} {v : Value} {n : Nat} {xs : List Value} (h : w.ownsRow base e sz v n xs) (hn : n ≤ 140737488355328) {c : Nat → Value} (hc : ∀ i, i < n * sz → xs[i]? = some (c i)) :
    Row w w.heap.size sz v n c := by
  obtain ⟨_, h | ⟨g, cap, cur, rfl, hb, hg, h1, h2, h3, h4⟩⟩ := h
  · obtain ⟨rfl, rfl⟩ := h
    exact ⟨hn, none, 0, rfl, Nat.le_refl _, by unfold maxLen; omega, fun h => absurd h (Nat.lt_irrefl _)⟩
  · refine ⟨hn, _, cap, rfl, h1, h2, fun _ => ⟨g, 0, rfl, (Array.getElem?_eq_some_iff.1 hg).1, fun i hi => ?_⟩⟩
    rw [Nat.zero_add, cell_of_row w g i cur e (0, 0) hg, ← hc i hi, ← h4, List.getElem?_take, if_pos hi]
    simp
def pow2 (n : Nat) : Nat := 2 ^ n
def bitAt (m k : Nat) : Bool := m.testBit k
theorem shl_pow {n : Nat} (h : n ≤ 8) : IntKind.i64.wrap (2 ^ n) = ((pow2 n : Nat) : Int) := by
  have h1 : 2 ^ n ≤ 2 ^ 8 := Nat.pow_le_pow_right (by decide) h
  have e : (2 : Int) ^ n = ((pow2 n : Nat) : Int) := by unfold pow2; simp
  rw [e]
  have h2 : pow2 n ≤ 256 := h1
  exact IntWalk.i64_in _ (by omega)
theorem bit_test (m k : Nat) (h : m < 4096) (hk : k < 12) : (bits .and .i64 (m : Int) ((2 ^ k : Nat) : Int) != 0) = bitAt m k := by
  rw [i64_and (by omega) (Nat.pow_lt_pow_right (by decide) (by omega))]
  exact sAnd_bit_nonzero m k
theorem elems_all : elems 4095 = List.range 12 := by decide +kernel
/-- Blocks that lay when a loop over elements began are as they were, but for the iterator's set. -/
structure Frm (Bs : Nat) (W0 W : World) : Prop where
  os : W.os = W0.os
  tape : W.tape = W0.tape
  output : W.output = W0.output
  size : W0.heap.size ≤ W.heap.size
  same : ∀ k, k < W0.heap.size → k ≠ Bs → W.heap[k]? = W0.heap[k]?
theorem Frm.refl (Bs : Nat) (W : World) : Frm Bs W W := ⟨rfl, rfl, rfl, Nat.le_refl _, fun _ _ _ => rfl⟩
theorem Frm.touched {Bs : Nat} {W0 W W' : World} (h : Frm Bs W0 W) (ht : Touched Bs W0.heap.size W W') : Frm Bs W0 W' :=
  ⟨ht.os.trans h.os, ht.tape.trans h.tape, ht.output.trans h.output, Nat.le_trans h.size ht.size, fun k hk hne => by
    have h1 := h.same k hk hne
    rw [Array.getElem?_eq_getElem hk] at h1 ⊢
    exact ht.same k _ h1 hne (.inl hk)⟩
theorem Frm.grow {Bs : Nat} {W0 W W' : World} (h : Frm Bs W0 W) (hb : Below W.heap.size W W') : Frm Bs W0 W' :=
  ⟨hb.os.trans h.os, hb.tape.trans h.tape, hb.output.trans h.output, Nat.le_trans h.size hb.size, fun k hk hne => (hb.block k (Nat.lt_of_lt_of_le hk h.size)).trans (h.same k hk hne)⟩
theorem Frm.below {B Bs : Nat} {w W0 W : World} (hb : Below B w W0) (h : Frm Bs W0 W) (hB : B ≤ Bs) (hs : B ≤ W0.heap.size) : Below B w W :=
  ⟨h.os.trans hb.os, h.tape.trans hb.tape, h.output.trans hb.output, Nat.le_trans hb.size h.size, fun k hk => (h.same k (by omega) (by omega)).trans (hb.block k hk)⟩
/-- .. as a world that lies behind another, below the iterator's set. -/
theorem Frm.under {Bs : Nat} {W0 W : World} (h : Frm Bs W0 W) (hs : Bs ≤ W0.heap.size) : Below Bs W0 W := Frm.below (Below.refl _ _) h (Nat.le_refl _) hs
theorem below_touched {B Bs L : Nat} {w W W' : World} (h : Below B w W) (ht : Touched Bs L W W') (hB : B ≤ Bs) (hL : B ≤ L) (hs : B ≤ w.heap.size) : Below B w W' :=
  ⟨ht.os.trans h.os, ht.tape.trans h.tape, ht.output.trans h.output, Nat.le_trans h.size ht.size, fun k hk => by
    have h1 := h.block k hk
    rw [Array.getElem?_eq_getElem (Nat.lt_of_lt_of_le hk hs)] at h1 ⊢
    exact ht.same k _ h1 (by omega) (.inl (by omega))⟩
theorem cell_touched {Bs L : Nat} {W W' : World} {b o : Nat} {v : Value} (h : W.cell? ⟨b, o, none⟩ = some v) (ht : Touched Bs L W W') (hb : b ≠ Bs) : W'.cell? ⟨b, o, none⟩ = some v := by
  unfold World.cell? at h ⊢
  cases ho : W.heap[b]? with
  | none => simp [ho] at h
  | some ob =>
    cases ob with
    | cells c t f => rw [ht.same b _ ho hb (.inr rfl)]; simpa [ho] using h
    | _ => simp [ho] at h
section
variable {F : Fence} {n : Nat} {P : Program} {fn : Func} {R : Ending → World → Prop}
theorem bodyM_ret0 {a : Act} {w : World} {v : Value} (hr : (results fn a.tmps).run P w = .ok v w) (hd : a.defers = []) (hR : R (.returned v) w) : bodyPostM F n P fn R .ret a w := by
  show LeavesInM F n P fn a.tmps R a.defers .returning w
  rw [hd]; exact ⟨v, hr, hR⟩
theorem bodyM_ret1 {a : Act} {w : World} {v : Value} (D : Nat) (hD : w.heap[D]? = some (.deferred (some []))) (hr : (results fn a.tmps).run P (w.putObj D (.deferred none)) = .ok v (w.putObj D (.deferred none)))
    (hd : a.defers = [{ target := .collected D, args := #[] }]) (hR : R (.returned v) (w.putObj D (.deferred none))) : bodyPostM F n P fn R .ret a w := by
  show LeavesInM F n P fn a.tmps R a.defers .returning w
  rw [hd]
  exact ⟨by simp, .inl ⟨_, _, rfl, run_takeDeferred hD, v, hr, hR⟩⟩
end
theorem cell_putObj {w : World} {D b o : Nat} {ob : Obj} (h : b ≠ D) : (w.putObj D ob).cell? ⟨b, o, none⟩ = w.cell? ⟨b, o, none⟩ := by simp only [World.cell?, World.putObj_heap_other h]
theorem below_putObj {B : Nat} {a w : World} (h : Below B a w) {D : Nat} (hD : B ≤ D) (o : Obj) : Below B a (w.putObj D o) :=
  ⟨h.os, h.tape, h.output, by simpa using h.size, fun k hk => (World.putObj_heap_other (by omega)).trans (h.block k hk)⟩
section
variable {P : Program} {w : World} {ops : Array Oper} {rest : List Oper} {o : Oper} {a : Act} {Q : Exit → Act → World → Prop}
/-- The built-in copy of n elements of sz cells each into a row of the call's own. -/
theorem run_copy_sz (w : World) (dT sT ty elem : TypeId) (sz : Nat) (g off dLen dCap : Nat) (a : Addr) (sLen sCap : Nat) (cur : Array Value) (t : TypeId) (cs : List Value)
    (hu : P.underlying dT = some (.slice elem)) (hs : (P.info? elem).map (·.size) = some sz)
    (hg : w.heap[g]? = some (.cells cur t (0, 0))) (hn : cs.length = Nat.min sLen dLen * sz)
    (hsrc : ∀ j v, cs[j]? = some v → w.cell? (a.add j) = some v) (hfit : off + cs.length ≤ cur.size) (h1 : ∀ v ∈ cs, v.oneCell' = true) :
    (Builtin.copy_ #[dT, sT] ty #[.slice (some ⟨g, off, none⟩) dLen dCap, .slice (some a) sLen sCap]).run P w =
      .ok (goInt (Nat.min sLen dLen)) (w.setRow g (cur.toList.take off ++ cs ++ cur.toList.drop (off + cs.length)).toArray) := by
  have hl := run_loadCells_list (P := P) w a cs hsrc
  have hst := run_storeCells_at P g off t cs 0 cur w hg (by simpa using hfit) h1
  cases hq : P.info? elem with
  | none => simp [hq] at hs
  | some i =>
    have hi : i.size = sz := by simpa [hq] using hs
    simp [Builtin.copy_, run_underlying hu, Builtin.lenOf, Builtin.firstCells, sizeOf, typeInfo, hq, hi, ← hn, hl, hst]
theorem wpList_copy_sz (hgd : o.guard = none) (d s : Operand) (dT sT : TypeId)
    (ho : o.op = .call { callee := .builtin .copy, args := #[d, s], argTypes := #[dT, sT] }) (elem : TypeId) (sz : Nat) (hu : P.underlying dT = some (.slice elem)) (hsz : (P.info? elem).map (·.size) = some sz)
    (g off dLen dCap : Nat) (ad : Addr) (sLen sCap : Nat) (hd : a.eval d = .slice (some ⟨g, off, none⟩) dLen dCap) (hs : a.eval s = .slice (some ad) sLen sCap)
    (cur : Array Value) (t : TypeId) (hg : w.heap[g]? = some (.cells cur t (0, 0))) (cs : List Value) (hn : cs.length = Nat.min sLen dLen * sz)
    (hsrc : ∀ j v, cs[j]? = some v → w.cell? (ad.add j) = some v) (hfit : off + cs.length ≤ cur.size) (h1 : ∀ v ∈ cs, v.oneCell' = true)
    (h : wpList P ops Q rest (a.put o.dst (goInt (Nat.min sLen dLen))) (w.setRow g (cur.toList.take off ++ (cs ++ cur.toList.drop (off + cs.length))).toArray)) : wpList P ops Q (o :: rest) a w := by
  refine wpList_plain hgd fun K hK => ?_
  have hrun := run_copy_sz (P := P) w dT sT o.type elem sz g off dLen dCap ad sLen sCap cur t cs hu hsz hg hn hsrc hfit h1
  unfold Oper.wp
  simp [execOp, ho, resolve, invoke, builtin, hd, hs, hrun, Result.andThen]
  exact hK _ _ h
end
theorem setCells_at' {A : Nat} {t : TypeId} {fr : Nat × Nat} : ∀ (vs : List Value) (o : Nat) (w : World) (z : Array Value), w.heap[A]? = some (.cells z t fr) → o + vs.length ≤ z.size →
    ∃ z' : Array Value, (w.setCells A o vs).heap[A]? = some (.cells z' t fr) ∧ z'.size = z.size ∧ ∀ i, z'[i]? = if o ≤ i ∧ i < o + vs.length then vs[i - o]? else z[i]?
  | [], o, w, z, h, _ => ⟨z, h, rfl, fun i => by rw [if_neg (by simp only [List.length_nil]; omega)]⟩
  | v :: vs, o, w, z, h, hl => by
    simp only [List.length_cons] at hl
    have h1 : (w.setCell ⟨A, o, none⟩ v).heap[A]? = some (.cells (z.setIfInBounds o v) t fr) := by
      simp only [World.setCell, Array.getElem?_modify, if_true, h, Option.map_some]
      rfl
    obtain ⟨z', e1, e2, e3⟩ := setCells_at' vs (o + 1) _ _ h1 (by simp; omega)
    refine ⟨z', e1, by simpa using e2, fun i => ?_⟩
    rw [e3, List.length_cons]
    by_cases hi : i = o
    · subst hi
      rw [if_neg (by omega), if_pos (by omega), Array.getElem?_setIfInBounds, if_pos rfl, if_pos (by omega)]; simp
    · by_cases h2 : o + 1 ≤ i ∧ i < o + 1 + vs.length
      · rw [if_pos h2, if_pos (by omega), show i - o = (i - (o + 1)) + 1 by omega]; rfl
      · rw [if_neg h2, if_neg (by omega), Array.getElem?_setIfInBounds, if_neg (fun h => hi h.symm)]
theorem setCells_heap {A : Nat} {t : TypeId} {fr : Nat × Nat} {vs : List Value} {w : World} {z : Array Value} (h : w.heap[A]? = some (.cells z t fr)) (hz : z.size = vs.length) : (w.setCells A 0 vs).heap[A]? = some (.cells vs.toArray t fr) := by
  obtain ⟨z', e1, e2, e3⟩ := setCells_at' vs 0 w z h (by omega)
  rw [e1]
  have : z' = vs.toArray := by
    apply Array.ext_getElem?
    intro i
    rw [e3]
    by_cases hi : i < vs.length
    · rw [if_pos (by omega)]; simp
    · rw [if_neg (by omega), Array.getElem?_eq_none (by omega), Array.getElem?_eq_none (by simpa using hi)]
  rw [this]
def intV (x : Int) : Value := .int .i64 x
def intsV (xs : List Int) : List Value := xs.map intV
theorem intsV_length (xs : List Int) : (intsV xs).length = xs.length := by simp [intsV]
theorem ints_get (xs : List Int) (i : Nat) (h : i < xs.length) : (intsV xs)[i]? = some (.int .i64 (iget xs i)) := by simp [intsV, intV, iget, h]
theorem ints_one (xs : List Int) : ∀ u ∈ intsV xs, u.oneCell' = true := by intro u hu; obtain ⟨x, _, rfl⟩ := List.mem_map.1 hu; rfl
theorem intsV_take (xs : List Int) (n : Nat) : (intsV xs).take n = intsV (xs.take n) := by simp [intsV, List.map_take]
theorem intsV_append (xs ys : List Int) : intsV xs ++ intsV ys = intsV (xs ++ ys) := by simp [intsV]
theorem own_cell {w : World} {base g k cap : Nat} {e : TypeId} {xs : List Value} (h : w.ownsRow base e 1 (.slice (some ⟨g, 0, none⟩) k cap) k xs) {j : Nat} (hj : j < cap) : (w.cell? ⟨g, j, none⟩).isSome = true ∧ w.frozen? ⟨g, j, none⟩ = false := by
  rcases h.2 with ⟨h, _⟩ | ⟨g', cap', cur, h, hbg, hg, h1, h2, h3, h4⟩
  · simp at h
  · simp only [Value.slice.injEq, Option.some.injEq, Addr.mk.injEq, and_true, true_and] at h
    obtain ⟨rfl, rfl⟩ := h
    refine ⟨?_, by simp [World.frozen?, hg]⟩
    rw [cell_of_row _ _ _ _ _ _ hg, Array.getElem?_eq_getElem (by rw [h3, Nat.mul_one]; exact hj)]; rfl
theorem own_mono {w : World} {base base' : Nat} {e : TypeId} {size : Nat} {v : Value} {n : Nat} {xs : List Value} (h : w.ownsRow base e size v n xs) (hb : base' ≤ base) : w.ownsRow base' e size v n xs := by
  refine ⟨h.1, ?_⟩
  rcases h.2 with h2 | ⟨g, cap, cur, hv, hg, r⟩
  · exact .inl h2
  · exact .inr ⟨g, cap, cur, hv, Nat.le_trans hb hg, r⟩
theorem Slice.own_succ {W : World} {base : Nat} {e : TypeId} {size : Nat} {v : Value} {k : Nat} {xs : List Value} (h : W.ownsRow base e size v (k + 1) xs) : ∃ g cap, v = .slice (some ⟨g, 0, none⟩) (k + 1) cap := by
  rcases h.2 with ⟨_, h0⟩ | ⟨g, cap, cur, rfl, _⟩
  · cases h0
  · exact ⟨g, cap, rfl⟩
theorem countP_drop {n e : Nat} {p : Nat → Bool} (he : e < n) (hp : p e = true) : (List.range n).countP (fun i => p i && !decide (i = e)) + 1 = (List.range n).countP p := by
  induction n with
  | zero => omega
  | succ n ih =>
    rw [List.range_succ, List.countP_append, List.countP_append, List.countP_singleton, List.countP_singleton]
    by_cases h : e = n
    · subst h
      have : (List.range e).countP (fun i => p i && !decide (i = e)) = (List.range e).countP p := by
        apply List.countP_congr
        intro x hx
        have := List.mem_range.1 hx
        have hne : x ≠ e := by omega
        simp [hne]
      rw [this]; simp [hp]
    · have := ih (by omega)
      have hne : n ≠ e := fun h' => h h'.symm
      simp only [hne, decide_false, Bool.not_false, Bool.and_true]
      omega
theorem sum_set (l : List Nat) (v x : Nat) (h : v < l.length) : (l.set v x).sum + l[v] = l.sum + x := by
  induction l generalizing v with
  | nil => simp at h
  | cons a l ih =>
    cases v with
    | zero => simp; omega
    | succ v =>
      simp only [List.set_cons_succ, List.sum_cons, List.getElem_cons_succ]
      have := ih v (by simpa using h)
      omega
theorem elems_mem {s e : Nat} : e ∈ elems s ↔ e < 64 ∧ s.testBit e = true := by unfold elems; simp
theorem elems_nodup (s : Nat) : (elems s).Nodup := by unfold elems; exact List.Pairwise.filter _ List.nodup_range
/-- Blocks of cells stay as they are. -/
structure CK (w w' : World) : Prop where
  same : ∀ (k : Nat) (c : Array Value) (t : TypeId) (f : Nat × Nat), w.heap[k]? = some (Obj.cells c t f) → w'.heap[k]? = some (Obj.cells c t f)
  size : w.heap.size ≤ w'.heap.size
theorem CK.refl (w : World) : CK w w := ⟨fun _ _ _ _ h => h, Nat.le_refl _⟩
theorem CK.trans {a b c : World} (h : CK a b) (h' : CK b c) : CK a c := ⟨fun k x t f e => h'.same k x t f (h.same k x t f e), Nat.le_trans h.size h'.size⟩
theorem CK.below {w w' : World} (h : Below w.heap.size w w') : CK w w' := ⟨fun k _ _ _ e => (h.block k (Array.getElem?_eq_some_iff.1 e).1).trans e, h.size⟩
theorem CK.cell {w w' : World} (h : CK w w') {b o : Nat} {v : Value} (e : w.cell? ⟨b, o, none⟩ = some v) : w'.cell? ⟨b, o, none⟩ = some v := by
  unfold World.cell? at e ⊢
  cases ho : w.heap[b]? with
  | none => simp [ho] at e
  | some ob =>
    cases ob with
    | cells c t f => rw [h.same b c t f ho]; simpa [ho] using e
    | _ => simp [ho] at e
theorem Row.ck {w w' : World} {B sz : Nat} {v : Value} {n : Nat} {c : Nat → Value} (h : Row w B sz v n c) (hc : CK w w') : Row w' B sz v n c := by
  obtain ⟨hn, a, cap, hv, hc1, hm, hr⟩ := h
  refine ⟨hn, a, cap, hv, hc1, hm, fun h0 => ?_⟩
  obtain ⟨b, off, ha, hbB, hcell⟩ := hr h0
  exact ⟨b, off, ha, hbB, fun i hi => hc.cell (hcell i hi)⟩
theorem Ints.ck {w w' : World} {B : Nat} {v : Value} {xs : List Int} (h : Ints w B v xs) (hc : CK w w') : Ints w' B v xs := Row.ck h hc
theorem own_ck {w w' : World} {base : Nat} {e : TypeId} {sz : Nat} {v : Value} {n : Nat} {xs : List Value} (h : w.ownsRow base e sz v n xs) (hc : CK w w') : w'.ownsRow base e sz v n xs := by
  refine ⟨h.1, ?_⟩
  rcases h.2 with hn | ⟨g, cap, cur, rfl, hb, hgg, rest⟩
  · exact .inl hn
  · exact .inr ⟨g, cap, cur, rfl, hb, hc.same _ _ _ _ hgg, rest⟩
/-- A world whose block b holds no cells: what is said of its cells says nothing of b. -/
def hole (b : Nat) (w : World) : World := w.putObj b (.deferred none)
theorem hole_other {b k : Nat} {w : World} (h : k ≠ b) : (hole b w).heap[k]? = w.heap[k]? := World.putObj_heap_other h
theorem hole_size (b : Nat) (w : World) : (hole b w).heap.size = w.heap.size := by simp [hole]
theorem hole_cells {b k : Nat} {w : World} {c : Array Value} {t : TypeId} {f : Nat × Nat} (h : (hole b w).heap[k]? = some (.cells c t f)) : k ≠ b ∧ w.heap[k]? = some (.cells c t f) := by
  by_cases hk : k = b
  · subst hk
    by_cases hs : k < w.heap.size
    · unfold hole at h; rw [World.putObj_heap_same hs] at h; cases h
    · rw [Array.getElem?_eq_none (by rw [hole_size]; omega)] at h; cases h
  · exact ⟨hk, by rwa [hole_other hk] at h⟩
theorem CK.fill (b : Nat) (w : World) : CK (hole b w) w := ⟨fun k c t f e => (hole_cells e).2, by rw [hole_size]; exact Nat.le_refl _⟩
theorem CK.hole {b : Nat} {w w' : World} (h : CK w w') : CK (hole b w) (hole b w') := ⟨fun k c t f e => by
  obtain ⟨h1, h2⟩ := hole_cells e
  rw [hole_other h1]; exact h.same _ _ _ _ h2, by rw [hole_size, hole_size]; exact h.size⟩
/-- What turns in block b alone does not show in the world with b taken out. -/
theorem CK.hole_of {b : Nat} {w w' : World} (h : ∀ (k : Nat) (c : Array Value) (t : TypeId) (f : Nat × Nat), k ≠ b → w.heap[k]? = some (Obj.cells c t f) → w'.heap[k]? = some (Obj.cells c t f)) (hs : w.heap.size ≤ w'.heap.size) : CK (Go.Proofs.YtdmmegmkdhinjaaGreatDoor.hole b w) (Go.Proofs.YtdmmegmkdhinjaaGreatDoor.hole b w') := ⟨fun k c t f e => by
  obtain ⟨h1, h2⟩ := hole_cells e
  rw [hole_other h1]; exact h _ _ _ _ h1 h2, by rw [hole_size, hole_size]; exact hs⟩
theorem CK.touched {Bs L : Nat} {w w' : World} (h : Touched Bs L w w') : CK (Go.Proofs.YtdmmegmkdhinjaaGreatDoor.hole Bs w) (Go.Proofs.YtdmmegmkdhinjaaGreatDoor.hole Bs w') := CK.hole_of (fun k _ _ _ hk e => h.same k _ e hk (.inr rfl)) h.size
/-- A fresh block is a hole that nobody missed. -/
theorem CK.fresh {b : Nat} {w w' : World} (h : CK w w') (hb : w.heap.size ≤ b) : CK w (Go.Proofs.YtdmmegmkdhinjaaGreatDoor.hole b w') := ⟨fun k c t f e => by
  have := (Array.getElem?_eq_some_iff.1 e).1
  rw [hole_other (by omega)]; exact h.same _ _ _ _ e, by rw [hole_size]; exact h.size⟩
/-- A row of the call's own is no longer than what a slice can be. -/
theorem own_max {w : World} {base : Nat} {e : TypeId} {sz : Nat} {v : Value} {n : Nat} {xs : List Value} (h : w.ownsRow base e sz v n xs) : n ≤ maxLen := by
  rcases h.2 with ⟨_, h0⟩ | ⟨g, cap, cur, _, _, _, h1, h2, _⟩
  · subst h0; exact Nat.zero_le _
  · exact Nat.le_trans h1 h2
/-- Rows of the call's own lie from base on: what turns below it does not show. -/
theorem own_low {w w' : World} {base : Nat} {e : TypeId} {sz : Nat} {v : Value} {n : Nat} {xs : List Value} (h : w.ownsRow base e sz v n xs) (hc : ∀ (k : Nat) (c : Array Value) (t : TypeId) (f : Nat × Nat), base ≤ k → w.heap[k]? = some (Obj.cells c t f) → w'.heap[k]? = some (Obj.cells c t f)) : w'.ownsRow base e sz v n xs := by
  refine ⟨h.1, ?_⟩
  rcases h.2 with hn | ⟨g, cap, cur, rfl, hb, hgg, rest⟩
  · exact .inl hn
  · exact .inr ⟨g, cap, cur, rfl, hb, hc _ _ _ _ hb hgg, rest⟩
def One (x q : Nat) : Prop := q = x
def Two (x b q : Nat) : Prop := q = x ∨ q = b
theorem Keep.grown {Bs L : Nat} {A B C : World} {base : Nat} {e : TypeId} {sz : Nat} {v : Value} {n : Nat} {cs : List Value} (h : Keep Bs L A B) (hown : B.ownsRow base e sz v n cs) (hg : B.grownBy C v.ownBlock) (hBs : ∀ g, v.ownBlock = some g → g ≠ Bs) : Keep Bs L A C := fun k o hk hc => by
  have h1 := h k o hk hc
  refine (hg.block k (Array.getElem?_eq_some_iff.1 h1).1 (fun hh => ?_)).trans h1
  have hq := hh.symm
  rcases hc with hc | ⟨_, hc⟩
  · exact hBs _ hq hc
  · rcases hown.2 with ⟨rfl, _⟩ | ⟨g, cap, cur, rfl, hb, hgg, _⟩
    · simp [Value.ownBlock] at hq
    · simp only [Value.ownBlock, Option.some.injEq] at hq
      subst hq
      rw [hgg] at h1
      cases h1
      simp [Obj.isCells] at hc
theorem hole_own {w : World} {base b : Nat} {e : TypeId} {size : Nat} {v : Value} {n : Nat} {xs : List Value} (h : (hole b w).ownsRow base e size v n xs) : ∀ g, v.ownBlock = some g → g ≠ b := by
  intro g hg
  rcases h.2 with ⟨rfl, _⟩ | ⟨g', cap, cur, rfl, _, hgg, _⟩
  · simp [Value.ownBlock] at hg
  · simp [Value.ownBlock] at hg
    subst hg
    exact (hole_cells hgg).1
/-- Rows of two types lie apart. -/
theorem own_own {w : World} {base base' : Nat} {e e' : TypeId} {sz sz' : Nat} {v v' : Value} {n n' : Nat} {xs xs' : List Value} (h : w.ownsRow base e sz v n xs) (h' : w.ownsRow base' e' sz' v' n' xs') (ht : e ≠ e') : v.ownBlock = none ∨ v.ownBlock ≠ v'.ownBlock := by
  rcases h.2 with ⟨rfl, _⟩ | ⟨g, cap, cur, rfl, _, hgg, _⟩
  · exact .inl rfl
  · right
    rcases h'.2 with ⟨rfl, _⟩ | ⟨g', cap', cur', rfl, _, hgg', _⟩
    · simp [Value.ownBlock]
    · simp only [Value.ownBlock, ne_eq, Option.some.injEq]
      intro hh
      subst hh
      rw [hgg] at hgg'
      cases hgg'
      exact ht rfl
theorem CK.prop {w w1 : World} {Bs x o : Nat} {vs : List Value} (hb : Below w.heap.size w w1) : CK (Go.Proofs.YtdmmegmkdhinjaaGreatDoor.hole x (Go.Proofs.YtdmmegmkdhinjaaGreatDoor.hole Bs w)) (Go.Proofs.YtdmmegmkdhinjaaGreatDoor.hole x (Go.Proofs.YtdmmegmkdhinjaaGreatDoor.hole Bs (w1.setCells x o vs))) :=
  CK.hole_of (fun k c t f hk e => by
    obtain ⟨h1, h2⟩ := hole_cells e
    have hlt := (Array.getElem?_eq_some_iff.1 h2).1
    have := hb.size
    rw [hole_other h1, World.heap_setCells_other _ _ _ _ (by omega) hk]
    exact (hb.block k hlt).trans h2) (by
    rw [hole_size, hole_size]
    exact Nat.le_trans hb.size (below_setCells (B := x) (Nat.le_refl _) vs o w1 (Below.refl _ _)).size)
theorem own_hole {w : World} {base b : Nat} {e : TypeId} {size : Nat} {v : Value} {n : Nat} {xs : List Value} (h : w.ownsRow base e size v n xs) (hb : ∀ g, v.ownBlock = some g → g ≠ b) : (hole b w).ownsRow base e size v n xs := by
  refine ⟨h.1, ?_⟩
  rcases h.2 with hn | ⟨g, cap, cur, rfl, hg, hgg, rest⟩
  · exact .inl hn
  · exact .inr ⟨g, cap, cur, rfl, hg, by rw [hole_other (hb g rfl)]; exact hgg, rest⟩
/-- A row's own block is no block of another type. -/
theorem own_apart {w : World} {base b : Nat} {e t : TypeId} {size : Nat} {v : Value} {n : Nat} {xs : List Value} {c : Array Value} (h : w.ownsRow base e size v n xs) (hb : w.heap[b]? = some (.cells c t (0, 0))) (ht : t ≠ e) : ∀ g, v.ownBlock = some g → g ≠ b := by
  intro g hg hgb
  subst hgb
  rcases h.2 with ⟨rfl, _⟩ | ⟨g', cap, cur, rfl, _, hgg, _⟩
  · simp [Value.ownBlock] at hg
  · simp [Value.ownBlock] at hg
    subst hg
    rw [hgg] at hb
    simp only [Option.some.injEq, Obj.cells.injEq] at hb
    exact ht hb.2.1.symm
theorem abs_anyH {P : Program} {md : Region.Mode} {ops : Array Oper} {Q : Exit → Act → World → Prop} {S : World → Prop} {n : Nat} {l : Array Bool} {a : Act} {W : World} (R : World → Prop) (hR : R W) (h : ∀ W', R W' → wpAnyH P md ops Q S n l a W') : wpAnyH P md ops Q S n l a W := h W hR
theorem hole_block {b k : Nat} {w : World} {o : Obj} (h : k ≠ b) (e : w.heap[k]? = some o) : (hole b w).heap[k]? = some o := (hole_other h).trans e
theorem abs_post {Q : Exit → Act → World → Prop} {e : Exit} {a : Act} {W : World} (R : World → Prop) (hR : R W) (h : ∀ W', R W' → Q e a W') : Q e a W := h W hR
theorem Below.drewn {B : Nat} {a w : World} (h : Below B a w) : Below B a w.drew := h.trans ⟨rfl, rfl, rfl, Nat.le_refl _, fun _ _ => rfl⟩
theorem two_no {x b q : Nat} (h1 : q ≠ x) (h2 : q ≠ b) : ¬ Two x b q := fun h => h.elim h1 h2
/-- The mark that a range over a function leaves. -/
def mark (D : Nat) : Deferred := { target := .collected D, args := #[] }
section
variable {F : Fence} {n : Nat} {P : Program} {fn : Func} {R : Ending → World → Prop}
theorem leaves_marks {v : Value} {L : Nat} {tmps : Array Value} : ∀ (Ds : List Nat) (w : World), Ds.Nodup → (∀ D ∈ Ds, L ≤ D ∧ w.heap[D]? = some (.deferred (some []))) →
    (∀ w', Below L w w' → CK w w' → (results fn tmps).run P w' = .ok v w' ∧ R (.returned v) w') → LeavesInM F n P fn tmps R (Ds.map mark) .returning w
  | [], w, _, _, h => ⟨v, (h w (Below.refl _ _) (CK.refl _)).1, (h w (Below.refl _ _) (CK.refl _)).2⟩
  | D :: Ds, w, hn, hD, h => by
    have hd := hD D (by simp)
    have hnd := List.nodup_cons.1 hn
    have hck : CK w (w.putObj D (.deferred none)) := ⟨fun k c t f e => (World.putObj_heap_other (fun hk => by subst hk; rw [hd.2] at e; cases e)).trans e, by simp⟩
    have hb : Below L w (w.putObj D (.deferred none)) := below_putObj (Below.refl _ _) hd.1 _
    refine ⟨by simp, .inl ⟨D, _, rfl, run_takeDeferred hd.2, leaves_marks (v := v) (L := L) Ds _ hnd.2 (fun D' h' => ⟨(hD D' (by simp [h'])).1, (World.putObj_heap_other (by intro hh; subst hh; exact hnd.1 h')).trans (hD D' (by simp [h'])).2⟩) ?_⟩⟩
    intro w' hb' hck'
    exact h w' (hb.trans hb') (hck.trans hck')
end
theorem abs_in {F : Fence} {n : Nat} {P : Program} {c : Code} {Q : Exit → Act → World → Prop} {a : Act} {W : World} (R : World → Prop) (hR : R W) (h : ∀ W', R W' → Code.wpIn F n P c Q a W') : Code.wpIn F n P c Q a W := h W hR
theorem abs_any {P : Program} {md : Region.Mode} {ops : Array Oper} {Q : Exit → Act → World → Prop} {n : Nat} {l : Array Bool} {a : Act} {W : World} (R : World → Prop) (hR : R W) (h : ∀ W', R W' → wpAny P md ops Q n l a W') : wpAny P md ops Q n l a W := h W hR
theorem eq_range (t : Array Value) (n : Nat) (h : t.size = n) : t = ((List.range n).map fun i => t.getD i undef).toArray := by
  subst h
  apply Array.ext_getElem?
  intro i
  by_cases hi : i < t.size
  · simp [hi]
  · simp [hi]
theorem wp_ran {P : Program} {o : Oper} {a : Act} {K : Act → World → Prop} {Q : Exit → Act → World → Prop} {w : World} (v : Value) (hr : (execOp a.eval o).run P w = .ok (.value v) w) (h : K (a.put o.dst v) w) : o.wp P a w K Q := by
  unfold Oper.wp
  rw [hr]
  exact h
/-- An operation that has been run by hand. -/
theorem wpList_ran {P : Program} {ops : Array Oper} {rest : List Oper} {o : Oper} {a : Act} {w : World} {Q : Exit → Act → World → Prop} (hgd : o.guard = none) (v : Value) (hr : (execOp a.eval o).run P w = .ok (.value v) w)
    (h : wpList P ops Q rest (a.put o.dst v) w) : wpList P ops Q (o :: rest) a w := wpList_plain hgd fun _ hK => wp_ran v hr (hK _ _ h)
theorem exec_build {P : Program} {o : Oper} {a : Act} {w : World} {v : Value} (t : TypeId) (parts : Array (Nat × Operand)) (ho : o.op = .build t parts) {ps : Array (Nat × Value)} (hm : (parts.map fun p => (p.1, a.eval p.2)) = ps) (hr : (Instr.build t ps).run P w = .ok v w) : (execOp a.eval o).run P w = .ok (.value v) w := by
  unfold execOp
  simp only [ho, hm, Sem.run_bind, hr, Result.andThen_ok, Sem.run_pure]
theorem idxOf_cases (p : Nat → Bool) (n : Nat) : idxOf p n = -1 ∨ ∃ k : Nat, idxOf p n = k ∧ k < n ∧ p k = true := by
  unfold idxOf
  cases h : (List.range n).find? p with
  | none => exact .inl rfl
  | some k => exact .inr ⟨k, rfl, List.mem_range.1 (List.mem_of_find?_eq_some h), List.find?_some h⟩
/-- Not a block of type T. -/
def notT (T : TypeId) : Obj → Prop
  | .cells _ t _ => t ≠ T
  | _ => True
theorem nT {T : TypeId} {c : Array Value} {t : TypeId} {f : Nat × Nat} (h : t ≠ T) : notT T (.cells c t f) := h
/-- Only new blocks, those of E, and rows of type T from base on have turned. -/
structure KeptT (T : TypeId) (E : Nat → Prop) (base : Nat) (w w' : World) : Prop where
  os : w'.os = w.os
  tape : w'.tape = w.tape
  output : w'.output = w.output
  size : w.heap.size ≤ w'.heap.size
  same : ∀ (q : Nat) (o : Obj), w.heap[q]? = some o → ¬ E q → (q < base ∨ notT T o) → w'.heap[q]? = some o
namespace KeptT
variable {T : TypeId} {E : Nat → Prop} {base : Nat} {a b c : World}
theorem refl (w : World) : KeptT T E base w w := ⟨rfl, rfl, rfl, Nat.le_refl _, fun _ _ h _ _ => h⟩
theorem trans (h : KeptT T E base a b) (h' : KeptT T E base b c) : KeptT T E base a c :=
  ⟨h'.os.trans h.os, h'.tape.trans h.tape, h'.output.trans h.output, Nat.le_trans h.size h'.size, fun q o e hE hn => h'.same q o (h.same q o e hE hn) hE hn⟩
theorem of_below (h : Below a.heap.size a b) : KeptT T E base a b :=
  ⟨h.os, h.tape, h.output, h.size, fun q _ e _ _ => (h.block q (Array.getElem?_eq_some_iff.1 e).1).trans e⟩
theorem below (h : KeptT T E base a b) (hb : Below b.heap.size b c) : KeptT T E base a c := h.trans (of_below hb)
theorem toBelow {B : Nat} (h : KeptT T E base a b) (hB : B ≤ base) (hw : B ≤ a.heap.size) (hE : ∀ q, q < B → ¬ E q) : Below B a b :=
  ⟨h.os, h.tape, h.output, h.size, fun q hq => by
    have e : a.heap[q]? = some (a.heap[q]'(by omega)) := Array.getElem?_eq_getElem (by omega)
    rw [e]; exact h.same q _ e (hE q hq) (.inl (by omega))⟩
theorem setCell (h : KeptT T E base a b) {p : Addr} (hp : E p.block) (v : Value) : KeptT T E base a (b.setCell p v) :=
  ⟨h.os, h.tape, h.output, by simpa [World.setCell] using h.size, fun q o e hE hn => (Below.heap_setCell _ _ _ _ (fun hh => by subst hh; exact hE hp)).trans (h.same q o e hE hn)⟩
theorem setNew (h : KeptT T E base a b) {p : Addr} (hp : a.heap.size ≤ p.block) (v : Value) : KeptT T E base a (b.setCell p v) :=
  ⟨h.os, h.tape, h.output, by simpa [World.setCell] using h.size, fun q o e hE hn => (Below.heap_setCell _ _ _ _ (by have := (Array.getElem?_eq_some_iff.1 e).1; omega)).trans (h.same q o e hE hn)⟩
/-- An append to a row of type T. -/
theorem grown {sz : Nat} {v : Value} {n : Nat} {cs : List Value} (h : KeptT T E base a b) (hown : b.ownsRow base T sz v n cs) (hg : b.grownBy c v.ownBlock) : KeptT T E base a c :=
  h.trans ⟨hg.os, hg.tape, hg.output, hg.size, fun q o e _ hn => by
    refine (hg.block q (Array.getElem?_eq_some_iff.1 e).1 (fun hh => ?_)).trans e
    have hq := hh.symm
    rcases hown.2 with ⟨rfl, _⟩ | ⟨g, cap, cur, rfl, hb, hgg, _⟩
    · simp [Value.ownBlock] at hq
    · simp only [Value.ownBlock, Option.some.injEq] at hq
      subst hq
      rcases hn with hn | hn
      · omega
      · rw [hgg] at e
        cases e
        exact hn rfl⟩
/-- A part of E and of the rows is new. -/
theorem weaken {E' : Nat → Prop} {base' : Nat} (h : KeptT T E' base' a b) (hE : ∀ q, q < a.heap.size → E' q → E q) (hb : base ≤ base' ∨ a.heap.size ≤ base') : KeptT T E base a b :=
  ⟨h.os, h.tape, h.output, h.size, fun q o e hE2 hn => h.same q o e (fun hh => hE2 (hE q (Array.getElem?_eq_some_iff.1 e).1 hh)) (by
    have := (Array.getElem?_eq_some_iff.1 e).1
    rcases hn with hn | hn
    · rcases hb with hb | hb
      · exact .inl (by omega)
      · exact .inl (by omega)
    · exact .inr hn)⟩
end KeptT
/-- A set as a number. -/
def natV (x : Nat) : Value := .int .u64 (x : Nat)
def natsV (xs : List Nat) : List Value := xs.map natV
theorem natsV_length (xs : List Nat) : (natsV xs).length = xs.length := by simp [natsV]
theorem natsV_one (xs : List Nat) : ∀ u ∈ natsV xs, u.oneCell' = true := by intro u hu; obtain ⟨x, _, rfl⟩ := List.mem_map.1 hu; rfl
theorem natsV_append (xs ys : List Nat) : natsV xs ++ natsV ys = natsV (xs ++ ys) := by simp [natsV]
def sget (ss : List (List Nat)) (i : Nat) : List Nat := ss[i]?.getD []
/-- What turns in a block of another type does not show. -/
theorem own_type {w w' : World} {base : Nat} {e : TypeId} {sz : Nat} {v : Value} {n : Nat} {xs : List Value} (h : w.ownsRow base e sz v n xs) (hc : ∀ (k : Nat) (c : Array Value), w.heap[k]? = some (Obj.cells c e (0, 0)) → w'.heap[k]? = some (Obj.cells c e (0, 0))) : w'.ownsRow base e sz v n xs := by
  refine ⟨h.1, ?_⟩
  rcases h.2 with hn | ⟨g, cap, cur, rfl, hb, hgg, rest⟩
  · exact .inl hn
  · exact .inr ⟨g, cap, cur, rfl, hb, hc _ _ hgg, rest⟩
theorem sget_snoc (l : List (List Nat)) (f : List Nat) (i : Nat) : sget (l ++ [f]) i = if i < l.length then sget l i else if i = l.length then f else [] := by
  unfold sget
  by_cases h : i < l.length
  · rw [if_pos h, List.getElem?_append_left h]
  · rw [if_neg h]
    by_cases h2 : i = l.length
    · rw [if_pos h2, h2]; simp
    · rw [if_neg h2, List.getElem?_eq_none (by simp; omega)]; rfl
theorem int_bne (a b : Nat) : (((a : Nat) : Int) != ((b : Nat) : Int)) = !decide (a = b) := by
  by_cases h : a = b
  · subst h; simp
  · have : ¬ ((a : Int) = (b : Int)) := by omega
    simp [h, this]
theorem heap_new5 (w : World) (o1 o2 o3 o4 o5 : Obj) : (((((w.alloc o1).alloc o2).alloc o3).alloc o4).alloc o5).heap[w.heap.size]? = some o1 ∧ (((((w.alloc o1).alloc o2).alloc o3).alloc o4).alloc o5).heap[w.heap.size + 1]? = some o2 ∧
    (((((w.alloc o1).alloc o2).alloc o3).alloc o4).alloc o5).heap[w.heap.size + 2]? = some o3 ∧ (((((w.alloc o1).alloc o2).alloc o3).alloc o4).alloc o5).heap[w.heap.size + 3]? = some o4 ∧ (((((w.alloc o1).alloc o2).alloc o3).alloc o4).alloc o5).heap[w.heap.size + 4]? = some o5 :=
  ⟨heap_old (heap_new4 _ _ _ _ _).1, heap_old (heap_new4 _ _ _ _ _).2.1, heap_old (heap_new4 _ _ _ _ _).2.2.1, heap_old (heap_new4 _ _ _ _ _).2.2.2, heap_at (by simp)⟩
theorem Below.new5 (w : World) (o1 o2 o3 o4 o5 : Obj) : Below w.heap.size w (((((w.alloc o1).alloc o2).alloc o3).alloc o4).alloc o5) := (Below.new4 w o1 o2 o3 o4).alloc (by simp; omega) _
theorem set_row {w : World} {b o : Nat} {c : Array Value} {t : TypeId} {v : Value} (h : w.heap[b]? = some (.cells c t (0, 0))) : (w.setCell ⟨b, o, none⟩ v).heap[b]? = some (.cells (c.setIfInBounds o v) t (0, 0)) := by
  simp only [World.setCell, Array.getElem?_modify, if_true, h, Option.map_some]; rfl
theorem row_range3 {w : World} {b : Nat} {x y z : Value} {t : TypeId} (h : w.heap[b]? = some (.cells #[x, y, z] t (0, 0))) : w.rangeAt b 0 [x, y, z] := fun j v hv => by
  rw [Nat.zero_add, cell_of_row _ _ _ _ _ _ h, List.getElem?_toArray]; exact hv
theorem abs_anyHS {P : Program} {md : Region.Mode} {ops : Array Oper} {Q : Exit → Act → World → Prop} {S : World → Prop} {n : Nat} {l : Array Bool} {a : Act} {W : World} (R : World → Prop) (hR : R W) (hS : S W) (h : ∀ W', R W' → S W' → wpAnyH P md ops Q S n l a W') : wpAnyH P md ops Q S n l a W := h W hR hS
theorem natI_erase (ns : List Nat) (i : Nat) : (ns.map natI).eraseIdx i = (ns.eraseIdx i).map natI := by
  induction ns generalizing i with
  | nil => simp
  | cons a ns ih => cases i <;> simp [ih]
theorem Ints.nil (w : World) (B : Nat) : Ints w B (.slice none 0 0) [] := ⟨by decide, none, 0, rfl, Nat.le_refl _, by decide, fun h => absurd h (Nat.lt_irrefl _)⟩
theorem row_rangeL {w : World} {b : Nat} {xs : List Value} {t : TypeId} (h : w.heap[b]? = some (.cells xs.toArray t (0, 0))) : w.rangeAt b 0 xs := fun j v hv => by
  rw [Nat.zero_add, cell_of_row _ _ _ _ _ _ h, List.getElem?_toArray]; exact hv
def sameI (a b : List Int) : Bool := decide (a = b)
theorem sameI_len {a b : List Int} (h : a.length ≠ b.length) : sameI a b = false := by unfold sameI; exact decide_eq_false fun e => h (by rw [e])
theorem sameI_no {a b : List Int} {k : Nat} (h : iget a k ≠ iget b k) : sameI a b = false := by unfold sameI; exact decide_eq_false fun e => h (by rw [e])
theorem sameI_yes {a b : List Int} (hl : a.length = b.length) (h : ∀ i, i < a.length → iget a i = iget b i) : sameI a b = true := by
  unfold sameI
  apply decide_eq_true
  apply List.ext_getElem hl
  intro i h1 h2
  have := h i h1
  simpa [iget, h1, h2] using this
/-- A slice of lists of sets. -/
def Uss (w : World) (B : Nat) (v : Value) (ss : List (List Nat)) : Prop := ∃ c, Row w B 1 v ss.length c ∧ ∀ i, i < ss.length → Us w B (c i) (sget ss i)
theorem Uss.below {w w' : World} {B : Nat} {v : Value} {xs : List (List Nat)} (h : Uss w B v xs) {B' : Nat} (hb : Below B' w w') (hB : B ≤ B') : Uss w' B v xs :=
  let ⟨c, hr, hc⟩ := h
  ⟨c, hr.below hb hB, fun i hi => (hc i hi).below hb hB⟩
theorem Uss.mono {w : World} {B : Nat} {v : Value} {xs : List (List Nat)} (h : Uss w B v xs) {B' : Nat} (hB : B ≤ B') : Uss w B' v xs :=
  let ⟨c, hr, hc⟩ := h
  ⟨c, hr.mono hB, fun i hi => (hc i hi).mono hB⟩
theorem natsV_get (xs : List Nat) (i : Nat) (h : i < xs.length) : (natsV xs)[i]? = some (.int .u64 (nget xs i : Nat)) := by simp [natsV, natV, nget, h]
def sameS (a b : List (List Nat)) : Bool := decide (a = b)
theorem sameS_len {a b : List (List Nat)} (h : a.length ≠ b.length) : sameS a b = false := by unfold sameS; exact decide_eq_false fun e => h (by rw [e])
theorem sameS_no {a b : List (List Nat)} {k : Nat} (h : sget a k ≠ sget b k) : sameS a b = false := by unfold sameS; exact decide_eq_false fun e => h (by rw [e])
theorem sameS_yes {a b : List (List Nat)} (hl : a.length = b.length) (h : ∀ i, i < a.length → sget a i = sget b i) : sameS a b = true := by
  unfold sameS
  apply decide_eq_true
  apply List.ext_getElem hl
  intro i h1 h2
  have := h i h1
  simpa [sget, h1, h2] using this
theorem nat_ext {a b : List Nat} (hl : a.length = b.length) (h : ∀ i, i < a.length → nget a i = nget b i) : a = b := by
  apply List.ext_getElem hl
  intro i h1 h2
  have := h i h1
  simpa [nget, h1, h2] using this
theorem uss_cell {w wr : World} {B : Nat} {v : Value} {ss : List (List Nat)} (h : Uss w B v ss) (hB : B ≤ w.heap.size) (hb : Below w.heap.size w wr) {k : Nat} (hk : k < ss.length) :
    ∃ p po q n c, v = .slice (some ⟨p, po, none⟩) ss.length n ∧ p < wr.heap.size ∧ wr.cell? ⟨p, po + k, none⟩ = some (.slice q (sget ss k).length c) ∧ Us wr B (.slice q (sget ss k).length c) (sget ss k) ∧ (sget ss k).length ≤ 140737488355328 := by
  obtain ⟨c, ⟨hn, a, cap, rfl, _, _, hr⟩, hc⟩ := h
  obtain ⟨p, po, rfl, hp, hpc⟩ := hr (by omega)
  have hu := (hc k hk)
  obtain ⟨q, cc, hq⟩ := hu.slice
  have hl : (sget ss k).length ≤ 140737488355328 := hu.1
  rw [hq] at hu
  refine ⟨p, po, q, cap, cc, rfl, by have := hb.size; omega, ?_, hu.below hb hB, hl⟩
  rw [hb.cell (p := ⟨p, po + k, none⟩) (by show p < w.heap.size; omega), hpc k (by omega), hq]
theorem Uss.take {w : World} {B : Nat} {a : Option Addr} {n cap : Nat} {ss : List (List Nat)} (h : Uss w B (.slice a n cap) ss) {k : Nat} (hk : k ≤ ss.length) : Uss w B (.slice a k cap) (ss.take k) := by
  obtain ⟨c, hr, hc⟩ := h
  have hn : n = ss.length := by obtain ⟨_, a', cap', hv, _⟩ := hr; cases hv; rfl
  subst hn
  have e : (ss.take k).length = k := by simp; omega
  refine ⟨c, by rw [e]; exact Row.take hr hk, fun i hi => ?_⟩
  rw [e] at hi
  have : sget (ss.take k) i = sget ss i := by unfold sget; rw [List.getElem?_take, if_pos hi]
  rw [this]; exact hc i (by omega)
def bitB (s e : Nat) : Bool := s.testBit e
theorem bitB_mask (s e : Nat) (hs : U64 s) : (bits .and .u64 ((s : Int) / 2 ^ e) 1 == 1) = bitB s e := by
  have hs' : s < 18446744073709551616 := hs
  have e1 : ((s : Int) / 2 ^ e) = ((s / 2 ^ e : Nat) : Int) := by simp
  have hlt : s / 2 ^ e < 18446744073709551616 := Nat.lt_of_le_of_lt (Nat.div_le_self _ _) hs'
  rw [e1, show (1 : Int) = ((1 : Nat) : Int) from rfl, u64_and_nat _ _ hlt (by decide)]
  unfold bitB
  rw [Nat.testBit_eq_decide_div_mod_eq, Nat.and_one_is_mod]
  rw [Bool.eq_iff_iff]; simp; omega
def cntN (s k : Nat) : Nat := (List.range k).countP (bitB s)
theorem cntN_succ (s k : Nat) : cntN s (k + 1) = cntN s k + (if bitB s k then 1 else 0) := by
  unfold cntN; rw [List.range_succ, List.countP_append, List.countP_singleton]
theorem cntN_le (s k : Nat) : cntN s k ≤ k := by unfold cntN; have := List.countP_le_length (p := bitB s) (l := List.range k); simpa using this
def blget (xs : List Bool) (i : Nat) : Bool := xs[i]?.getD false
/-- A slice of bools. -/
def Bls (w : World) (B : Nat) (v : Value) (xs : List Bool) : Prop := Row w B 1 v xs.length (fun i => .bool (blget xs i))
theorem Bls.below {w w' : World} {B : Nat} {v : Value} {xs : List Bool} (h : Bls w B v xs) {B' : Nat} (hb : Below B' w w') (hB : B ≤ B') : Bls w' B v xs := Row.below h hb hB
theorem Bls.mono {w : World} {B : Nat} {v : Value} {xs : List Bool} (h : Bls w B v xs) {B' : Nat} (hB : B ≤ B') : Bls w B' v xs := Row.mono h hB
def boolsV (xs : List Bool) : List Value := xs.map .bool
theorem boolsV_one (xs : List Bool) : ∀ u ∈ boolsV xs, u.oneCell' = true := by intro u hu; obtain ⟨x, _, rfl⟩ := List.mem_map.1 hu; rfl
theorem boolsV_append (xs ys : List Bool) : boolsV xs ++ boolsV ys = boolsV (xs ++ ys) := by simp [boolsV]
theorem sDiff_self (s : Nat) : sDiff s s = 0 := by unfold sDiff; rw [Nat.and_self, Nat.xor_self]
theorem find_congr {α : Type} {p q : α → Bool} : ∀ {l : List α}, (∀ x ∈ l, p x = q x) → l.find? p = l.find? q
  | [], _ => rfl
  | x :: l, h => by
    rw [List.find?_cons, List.find?_cons, h x (by simp), find_congr (fun y hy => h y (by simp [hy]))]
theorem idxOf_congr {p q : Nat → Bool} {n : Nat} (h : ∀ i, i < n → p i = q i) : idxOf p n = idxOf q n := by
  have : (List.range n).find? p = (List.range n).find? q := find_congr fun x hx => h x (List.mem_range.1 hx)
  unfold idxOf
  rw [this]
/-- A row of the call's own that is not empty: its block. -/
theorem own_some {w : World} {base : Nat} {e : TypeId} {sz : Nat} {v : Value} {n : Nat} {xs : List Value} (h : w.ownsRow base e sz v n xs) (h0 : 0 < n) :
    ∃ g cap, ∃ cur : Array Value, v = .slice (some ⟨g, 0, none⟩) n cap ∧ base ≤ g ∧ w.heap[g]? = some (.cells cur e (0, 0)) ∧ n ≤ cap ∧ cap ≤ maxLen ∧ ∀ i, i < n * sz → cur[i]? = xs[i]? := by
  rcases h.2 with ⟨_, h1⟩ | ⟨g, cap, cur, rfl, hb, hg, h1, h2, h3, h4⟩
  · omega
  · refine ⟨g, cap, cur, rfl, hb, hg, h1, h2, fun i hi => ?_⟩
    rw [← h4, List.getElem?_take, if_pos hi]; simp
theorem ihas_no {xs : List Int} {i : Nat} (hi : i ≤ xs.length) {x : Int} (h : ∀ j, j < i → iget xs j ≠ x) : ihas (xs.take i) x = false := by
  unfold ihas
  rw [Bool.eq_false_iff]
  intro hc
  rw [List.contains_iff_mem] at hc
  obtain ⟨j, hj, hx⟩ := List.mem_iff_getElem.1 hc
  have hj2 : j < i := by simp at hj; omega
  apply h j hj2
  rw [← hx]
  simp [iget, show j < xs.length by omega]
theorem ihas_yes {xs : List Int} {i j : Nat} (hi : i ≤ xs.length) (hj : j < i) {x : Int} (h : iget xs j = x) : ihas (xs.take i) x = true := by
  unfold ihas
  rw [List.contains_iff_mem]
  refine List.mem_iff_getElem.2 ⟨j, by simp; omega, ?_⟩
  rw [← h]
  simp [iget, show j < xs.length by omega]
theorem ihas_all_no {xs : List Int} {x : Int} (h : ∀ j, j < xs.length → iget xs j ≠ x) : ihas xs x = false := by
  have := ihas_no (Nat.le_refl xs.length) h
  rwa [List.take_length] at this
theorem ihas_at {xs : List Int} {j : Nat} (hj : j < xs.length) {x : Int} (h : iget xs j = x) : ihas xs x = true := by
  have := ihas_yes (Nat.le_refl xs.length) hj h
  rwa [List.take_length] at this
section
variable {P : Program}
theorem own_shorter {w : World} {base : Nat} {e : TypeId} {sz g n m cap : Nat} {xs news : List Value} (h : w.ownsRow base e sz (.slice (some ⟨g, 0, none⟩) (n + m) cap) (n + m) (xs ++ news)) (hx : xs.length = n * sz) : w.ownsRow base e sz (.slice (some ⟨g, 0, none⟩) n cap) n xs := by
  rcases h.2 with ⟨h', _⟩ | ⟨g', cap', cur, h', hb, hg, h1, h2, h3, h4⟩
  · simp at h'
  · simp only [Value.slice.injEq, Option.some.injEq, Addr.mk.injEq, and_true, true_and] at h'
    obtain ⟨rfl, rfl⟩ := h'
    refine ⟨hx, .inr ⟨g, cap, cur, rfl, hb, hg, by omega, h2, h3, ?_⟩⟩
    have h5 : (cur.toList.take ((n + m) * sz)).take (n * sz) = (xs ++ news).take (n * sz) := by rw [h4]
    rw [List.take_take, Nat.min_eq_left (Nat.mul_le_mul_right _ (by omega))] at h5
    rw [h5, ← hx, List.take_left]
theorem append_keeps {w w' : World} (base : Nat) (t ty e : TypeId) (i : TypeInfo) (z : Value) (size bytes : Nat) (ht : P.underlying t = some (.slice e)) (hi : P.info? e = some i) (hz : i.zero = some z)
    (hsize : i.size = size) (hby : i.bytes = bytes) (v : Value) (n : Nat) (xs : List Value) (hown : w.ownsRow base e size v n xs)
    (ad : Addr) (m c : Nat) (news : List Value) (hl : news.length = m * size) (hnews : ∀ j u, news[j]? = some u → w.cell? (ad.add j) = some u) (h1 : ∀ u ∈ news, u.oneCell' = true)
    (h63 : n + m ≤ maxLen) (hbytes : (n + m) * bytes ≤ 140737488355328) {v' : Value} (hr : (Builtin.append_ #[t, t] ty #[v, .slice (some ad) m c]).run P w = .ok v' w') (hown' : w'.ownsRow base e size v' (n + m) (xs ++ news)) :
    w'.ownsRow base e size v n xs := by
  subst hsize hby
  rcases hown.2 with ⟨rfl, rfl⟩ | ⟨g, cap, cur, rfl, hbg, hg, hnc, hcm, hcs, htake⟩
  · have hx : xs = [] := List.eq_nil_of_length_eq_zero (by simpa using hown.1)
    subst hx
    exact World.ownsRow_nil _ _ _ _
  · by_cases hroom : n + m ≤ cap
    · have hfit : n * i.size + news.length ≤ cur.size := by rw [hl, hcs, ← Nat.add_mul]; exact Nat.mul_le_mul_right _ hroom
      have hr2 := run_append_room (P := P) w t ty e i ht hi g n cap cur hg ad m c news hl hnews h1 hroom hfit
      rw [hr] at hr2
      simp only [Result.ok.injEq] at hr2
      obtain ⟨rfl, rfl⟩ := hr2
      exact own_shorter hown' hown.1
    · have holds : ∀ j u, xs[j]? = some u → w.cell? ((⟨g, 0, none⟩ : Addr).add j) = some u := hown.cells (g := g) rfl
      have hr2 := run_append_grow (P := P) w t ty e i z ht hi hz ⟨g, 0, none⟩ n cap xs hown.1 holds ad m c news hl hnews (by omega) (by unfold maxLen at h63; omega) (growslice_fits (by omega) hbytes)
      rw [hr] at hr2
      simp only [Result.ok.injEq] at hr2
      obtain ⟨rfl, rfl⟩ := hr2
      exact own_ck hown (CK.below ((Below.drewn (Below.refl _ _)).alloc (Nat.le_refl _) _))
/-- Of a slice without an address nothing comes. -/
theorem run_append_none (w : World) (base : Nat) (t ty e : TypeId) (i : TypeInfo) (size : Nat) (ht : P.underlying t = some (.slice e)) (hi : P.info? e = some i) (v : Value) (n : Nat) (xs : List Value) (hown : w.ownsRow base e size v n xs) (c : Nat) :
    (Builtin.append_ #[t, t] ty #[v, .slice none 0 c]).run P w = .ok v w := by
  rcases hown.2 with ⟨rfl, rfl⟩ | ⟨g, cap, cur, rfl, hbg, hg, hnc, hcm, hcs, htake⟩
  · simp [Builtin.append_, run_underlying ht, sizeOf, typeInfo, hi, Builtin.lenOf, Builtin.firstCells]
  · simp [Builtin.append_, run_underlying ht, sizeOf, typeInfo, hi, Builtin.lenOf, Builtin.firstCells, hnc, storeCells]
theorem run_append_row (w : World) (base : Nat) (t ty e : TypeId) (i : TypeInfo) (z : Value) (size bytes : Nat) (ht : P.underlying t = some (.slice e)) (hi : P.info? e = some i) (hz : i.zero = some z)
    (hsize : i.size = size) (hby : i.bytes = bytes) (hzs : z.cells.size = size) (hsz : 0 < size) (v : Value) (n : Nat) (xs : List Value) (hown : w.ownsRow base e size v n xs)
    (xv : Value) (m : Nat) (c : Nat → Value) (B : Nat) (hrow : Row w B size xv m c) (news : List Value) (hl : news.length = m * size) (hnews : ∀ j, j < m * size → news[j]? = some (c j)) (h1 : ∀ u ∈ news, u.oneCell' = true)
    (h63 : n + m ≤ maxLen) (hbytes : (n + m) * bytes ≤ 140737488355328) (hbase : base ≤ w.heap.size) :
    ∃ v' w', (Builtin.append_ #[t, t] ty #[v, xv]).run P w = .ok v' w' ∧ w'.ownsRow base e size v' (n + m) (xs ++ news) ∧ w.grownBy w' v.ownBlock ∧ w'.ownsRow base e size v n xs := by
  obtain ⟨_, a, cap, rfl, _, _, hr⟩ := hrow
  cases a with
  | none =>
    have hm : m = 0 := by
      rcases Nat.eq_zero_or_pos m with h | h
      · exact h
      · obtain ⟨b, off, h, _⟩ := hr h; cases h
    subst hm
    have hn : news = [] := List.eq_nil_of_length_eq_zero (by simpa using hl)
    subst hn
    exact ⟨v, w, run_append_none w base t ty e i size ht hi v n xs hown cap, by simpa using hown, ⟨rfl, rfl, rfl, Nat.le_refl _, fun _ _ _ => rfl⟩, hown⟩
  | some ad =>
    have hcell : ∀ j u, news[j]? = some u → w.cell? (ad.add j) = some u := by
      intro j u hj
      have hjl : j < m * size := by rw [← hl]; exact (List.getElem?_eq_some_iff.1 hj).1
      have hm : 0 < m := by rcases Nat.eq_zero_or_pos m with h | h; · rw [h, Nat.zero_mul] at hjl; omega
                            · exact h
      obtain ⟨b, off, h, _, hc⟩ := hr hm
      cases h
      rw [Addr.add_lit, hc j hjl, ← hnews j hjl, hj]
    obtain ⟨v', w', h2, h3, h4, _⟩ := run_append_own (P := P) w base t ty e i z size bytes ht hi hz hsize hby hzs hsz v n xs hown ad m cap news hl hcell h1 h63 hbytes hbase
    exact ⟨v', w', h2, h3, h4, append_keeps base t ty e i z size bytes ht hi hz hsize hby v n xs hown ad m cap news hl hcell h1 h63 hbytes h2 h3⟩
theorem wp_append_row {o : Oper} {a : Act} {w : World} {K : Act → World → Prop} {Q : Exit → Act → World → Prop} (s x : Operand) (t : TypeId)
    (ho : o.op = .call { callee := .builtin .append, args := #[s, x], argTypes := #[t, t] })
    (base : Nat) (e : TypeId) (i : TypeInfo) (z : Value) (size bytes : Nat) (ht : P.underlying t = some (.slice e)) (hi : P.info? e = some i) (hz : i.zero = some z)
    (hsize : i.size = size) (hby : i.bytes = bytes) (hzs : z.cells.size = size) (hsz : 0 < size) (v : Value) (n : Nat) (xs : List Value) (hs : a.eval s = v) (hown : w.ownsRow base e size v n xs)
    (xv : Value) (m : Nat) (c : Nat → Value) (B : Nat) (hx : a.eval x = xv) (hrow : Row w B size xv m c) (news : List Value) (hl : news.length = m * size) (hnews : ∀ j, j < m * size → news[j]? = some (c j)) (h1 : ∀ u ∈ news, u.oneCell' = true)
    (h63 : n + m ≤ maxLen) (hbytes : (n + m) * bytes ≤ 140737488355328) (hbase : base ≤ w.heap.size)
    (h : ∀ v' w', w'.ownsRow base e size v' (n + m) (xs ++ news) → w.grownBy w' v.ownBlock → w'.ownsRow base e size v n xs → K (a.put o.dst v') w') : o.wp P a w K Q := by
  obtain ⟨v', w', hr, h2, h3, h4⟩ := run_append_row (P := P) w base t o.type e i z size bytes ht hi hz hsize hby hzs hsz v n xs hown xv m c B hrow news hl hnews h1 h63 hbytes hbase
  unfold Oper.wp execOp
  simp only [ho, resolve, invoke, builtin, Sem.run_bind, Sem.run_pure, Result.andThen_ok, List.map_toArray, List.map_cons, List.map_nil, hs, hx, hr]
  exact h v' w' h2 h3 h4
theorem wpList_append_row {ops : Array Oper} {rest : List Oper} {o : Oper} {a : Act} {w : World} {Q : Exit → Act → World → Prop} (hgd : o.guard = none) (s x : Operand) (t : TypeId)
    (ho : o.op = .call { callee := .builtin .append, args := #[s, x], argTypes := #[t, t] })
    (base : Nat) (e : TypeId) (i : TypeInfo) (z : Value) (size bytes : Nat) (ht : P.underlying t = some (.slice e)) (hi : P.info? e = some i) (hz : i.zero = some z)
    (hsize : i.size = size) (hby : i.bytes = bytes) (hzs : z.cells.size = size) (hsz : 0 < size) (v : Value) (n : Nat) (xs : List Value) (hs : a.eval s = v) (hown : w.ownsRow base e size v n xs)
    (xv : Value) (m : Nat) (c : Nat → Value) (B : Nat) (hx : a.eval x = xv) (hrow : Row w B size xv m c) (news : List Value) (hl : news.length = m * size) (hnews : ∀ j, j < m * size → news[j]? = some (c j)) (h1 : ∀ u ∈ news, u.oneCell' = true)
    (h63 : n + m ≤ maxLen) (hbytes : (n + m) * bytes ≤ 140737488355328) (hbase : base ≤ w.heap.size)
    (h : ∀ v' w', w'.ownsRow base e size v' (n + m) (xs ++ news) → w.grownBy w' v.ownBlock → w'.ownsRow base e size v n xs → wpList P ops Q rest (a.put o.dst v') w') : wpList P ops Q (o :: rest) a w :=
  wpList_plain hgd fun _ hK => wp_append_row s x t ho base e i z size bytes ht hi hz hsize hby hzs hsz v n xs hs hown xv m c B hx hrow news hl hnews h1 h63 hbytes hbase fun v' w' h2 h3 h4 => hK _ _ (h v' w' h2 h3 h4)
end
theorem Bls.slice {w : World} {B : Nat} {v : Value} {xs : List Bool} (h : Bls w B v xs) : ∃ a c, v = .slice a xs.length c := by obtain ⟨_, a, cap, rfl, _⟩ := h; exact ⟨_, _, rfl⟩
theorem boolsV_length (xs : List Bool) : (boolsV xs).length = xs.length := by simp [boolsV]
theorem boolsV_get (xs : List Bool) (i : Nat) (h : i < xs.length) : (boolsV xs)[i]? = some (.bool (blget xs i)) := by simp [boolsV, blget, h]
theorem own_form {w : World} {base : Nat} {e : TypeId} {sz : Nat} {v : Value} {n : Nat} {xs : List Value} (h : w.ownsRow base e sz v n xs) : ∃ a c, v = .slice a n c := by
  rcases h.2 with ⟨rfl, rfl⟩ | ⟨g, cap, cur, rfl, _⟩
  · exact ⟨_, _, rfl⟩
  · exact ⟨_, _, rfl⟩
theorem row_new1 (w : World) (v : Value) (t : TypeId) : Row (w.alloc (.cells #[v] t)) (w.heap.size + 1) 1 (.slice (some ⟨w.heap.size, 0, none⟩) 1 1) 1 (fun _ => v) :=
  ⟨by decide, _, _, rfl, Nat.le_refl _, by decide, fun _ => ⟨_, _, rfl, Nat.lt_succ_self _, fun i hi => by
    have : i = 0 := by omega
    subst this
    exact cell_of_one (heap_new0 _ _)⟩⟩
theorem one_get (v : Value) : ∀ j, j < 1 * 1 → [v][j]? = some ((fun _ : Nat => v) j) := fun j hj => by
  have : j = 0 := by omega
  subst this; rfl
theorem one_one {v : Value} (h : v.oneCell' = true) : ∀ u ∈ [v], u.oneCell' = true := fun u hu => by
  rw [List.mem_singleton.1 hu]; exact h
/-- A part of a slice of ints. -/
theorem ints_drop {w : World} {B : Nat} {g off n c k : Nat} {xs : List Int} (h : Ints w B (.slice (some ⟨g, off, none⟩) n c) xs) (hk : k ≤ n) (_ : c ≠ k) : Row w B 1 (.slice (some ⟨g, off + k, none⟩) (n - k) (c - k)) (n - k) (fun i => .int .i64 (iget (xs.drop k) i)) := by
  obtain ⟨hn, a, cap, hv, h1, h2, h3⟩ := h
  cases hv
  refine ⟨by omega, _, _, rfl, by omega, by unfold maxLen at h2 ⊢; omega, fun h0 => ?_⟩
  obtain ⟨b, o, ha, hb, hcell⟩ := h3 (by omega)
  cases ha
  refine ⟨_, _, rfl, hb, fun i hi => ?_⟩
  rw [Nat.add_assoc, hcell (k + i) (by omega)]
  simp [iget, List.getElem?_drop]
theorem ints_row {w : World} {B : Nat} {v : Value} {xs : List Int} (h : Ints w B v xs) : Row w B 1 v xs.length (fun i => .int .i64 (iget xs i)) := h
theorem intsV_row (xs : List Int) : ∀ j, j < xs.length * 1 → (intsV xs)[j]? = some (.int .i64 (iget xs j)) := fun j hj => ints_get xs j (by omega)
/-- A row stays where a cell of a block of another type is laid anew. -/
theorem own_setF {w : World} {base b : Nat} {e : TypeId} {sz : Nat} {v x : Value} {n : Nat} {xs : List Value} {c : Array Value} {t : TypeId} {o : Nat} (h : w.ownsRow base e sz v n xs) (hb : w.heap[b]? = some (.cells c t (0, 0))) (ht : t ≠ e) : (w.setCell ⟨b, o, none⟩ x).ownsRow base e sz v n xs :=
  own_type h fun k c' hk => (Below.heap_setCell _ _ _ _ (fun hh => by
    have hh' : k = b := hh
    subst hh'
    rw [hb] at hk
    cases hk
    exact ht rfl)).trans hk
end Go.Proofs.YtdmmegmkdhinjaaGreatDoor
