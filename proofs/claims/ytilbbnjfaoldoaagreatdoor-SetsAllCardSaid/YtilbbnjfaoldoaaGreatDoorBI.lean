/- Appends of whatever slice to a row of the call's own, the old slice kept beside the new one. · The reference: some. · The reference: Can, Follows. -/
import Derived.Test.YtilbbnjfaoldoaaGreatDoorBH
namespace Go.Proofs.YtilbbnjfaoldoaaGreatDoor
open Go Go.RowKit
section
variable {P : Program}
theorem own_shorter {w : World} {base : Nat} {e : TypeId} {sz g n m cap : Nat} {xs news : List Value} (h : w.ownsRow base e sz (.slice (some ⟨g, 0, none⟩) (n + m) cap) (n + m) (xs ++ news)) (hx : xs.length = n * sz) : w.ownsRow base e sz (.slice (some ⟨g, 0, none⟩) n cap) n xs := by
  rcases h.2 with ⟨h', _⟩ | ⟨g', cap', cur, h', hb, hg, h1, h2, h3, h4⟩
  · simp at h'
  · simp only [Value.slice.injEq, Option.some.injEq, Addr.mk.injEq, and_true, true_and] at h'
    obtain ⟨rfl, rfl⟩ := h'
    refine ⟨hx, .inr ⟨g, cap, cur, rfl, hb, hg, by omega, h2, h3, ?_⟩⟩
    have h5 : (cur.toList.take ((n + m) * sz)).take (n * sz) = (xs ++ news).take (n * sz) := by rw [h4]
    rw [List.take_take, Nat.min_eq_left (Nat.mul_le_mul_right _ (by omega))] at h5
    rw [h5, ← hx, List.take_left]
theorem append_keeps {w w' : World} (base : Nat) (t ty e : TypeId) (i : TypeInfo) (z : Value) (size bytes : Nat) (ht : P.underlying t = some (.slice e)) (hi : P.info? e = some i) (hz : i.zero = some z)
    (hsize : i.size = size) (hby : i.bytes = bytes) (v : Value) (n : Nat) (xs : List Value) (hown : w.ownsRow base e size v n xs)
    (ad : Addr) (m c : Nat) (news : List Value) (hl : news.length = m * size) (hnews : ∀ j u, news[j]? = some u → w.cell? (ad.add j) = some u) (h1 : ∀ u ∈ news, u.oneCell' = true)
    (h63 : n + m ≤ maxLen) (hbytes : (n + m) * bytes ≤ 140737488355328) {v' : Value} (hr : (Builtin.append_ #[t, t] ty #[v, .slice (some ad) m c]).run P w = .ok v' w') (hown' : w'.ownsRow base e size v' (n + m) (xs ++ news)) :
    w'.ownsRow base e size v n xs := by
  subst hsize hby
  rcases hown.2 with ⟨rfl, rfl⟩ | ⟨g, cap, cur, rfl, hbg, hg, hnc, hcm, hcs, htake⟩
  · have hx : xs = [] := List.eq_nil_of_length_eq_zero (by simpa using hown.1)
    subst hx
    exact World.ownsRow_nil _ _ _ _
  · by_cases hroom : n + m ≤ cap
    · have hfit : n * i.size + news.length ≤ cur.size := by rw [hl, hcs, ← Nat.add_mul]; exact Nat.mul_le_mul_right _ hroom
      have hr2 := run_append_room (P := P) w t ty e i ht hi g n cap cur hg ad m c news hl hnews h1 hroom hfit
      rw [hr] at hr2
      simp only [Result.ok.injEq] at hr2
      obtain ⟨rfl, rfl⟩ := hr2
      exact own_shorter hown' hown.1
    · have holds : ∀ j u, xs[j]? = some u → w.cell? ((⟨g, 0, none⟩ : Addr).add j) = some u := hown.cells (g := g) rfl
      have hr2 := run_append_grow (P := P) w t ty e i z ht hi hz ⟨g, 0, none⟩ n cap xs hown.1 holds ad m c news hl hnews (by omega) (by unfold maxLen at h63; omega) (growslice_fits (by omega) hbytes)
      rw [hr] at hr2
      simp only [Result.ok.injEq] at hr2
      obtain ⟨rfl, rfl⟩ := hr2
      exact own_ck hown (CK.below ((Below.drewn (Below.refl _ _)).alloc (Nat.le_refl _) _))
/-- Of a slice without an address nothing comes. -/
theorem run_append_none (w : World) (base : Nat) (t ty e : TypeId) (i : TypeInfo) (size : Nat) (ht : P.underlying t = some (.slice e)) (hi : P.info? e = some i) (v : Value) (n : Nat) (xs : List Value) (hown : w.ownsRow base e size v n xs) (c : Nat) :
    (Builtin.append_ #[t, t] ty #[v, .slice none 0 c]).run P w = .ok v w := by
  rcases hown.2 with ⟨rfl, rfl⟩ | ⟨g, cap, cur, rfl, hbg, hg, hnc, hcm, hcs, htake⟩
  · simp [Builtin.append_, run_underlying ht, sizeOf, typeInfo, hi, Builtin.lenOf, Builtin.firstCells]
  · simp [Builtin.append_, run_underlying ht, sizeOf, typeInfo, hi, Builtin.lenOf, Builtin.firstCells, hnc, storeCells]
theorem run_append_row (w : World) (base : Nat) (t ty e : TypeId) (i : TypeInfo) (z : Value) (size bytes : Nat) (ht : P.underlying t = some (.slice e)) (hi : P.info? e = some i) (hz : i.zero = some z)
    (hsize : i.size = size) (hby : i.bytes = bytes) (hzs : z.cells.size = size) (hsz : 0 < size) (v : Value) (n : Nat) (xs : List Value) (hown : w.ownsRow base e size v n xs)
    (xv : Value) (m : Nat) (c : Nat → Value) (B : Nat) (hrow : Row w B size xv m c) (news : List Value) (hl : news.length = m * size) (hnews : ∀ j, j < m * size → news[j]? = some (c j)) (h1 : ∀ u ∈ news, u.oneCell' = true)
    (h63 : n + m ≤ maxLen) (hbytes : (n + m) * bytes ≤ 140737488355328) (hbase : base ≤ w.heap.size) :
    ∃ v' w', (Builtin.append_ #[t, t] ty #[v, xv]).run P w = .ok v' w' ∧ w'.ownsRow base e size v' (n + m) (xs ++ news) ∧ w.grownBy w' v.ownBlock ∧ w'.ownsRow base e size v n xs := by
  obtain ⟨_, a, cap, rfl, _, _, hr⟩ := hrow
  cases a with
  | none =>
    have hm : m = 0 := by
      rcases Nat.eq_zero_or_pos m with h | h
      · exact h
      · obtain ⟨b, off, h, _⟩ := hr h; cases h
    subst hm
    have hn : news = [] := List.eq_nil_of_length_eq_zero (by simpa using hl)
    subst hn
    exact ⟨v, w, run_append_none w base t ty e i size ht hi v n xs hown cap, by simpa using hown, ⟨rfl, rfl, rfl, Nat.le_refl _, fun _ _ _ => rfl⟩, hown⟩
  | some ad =>
    have hcell : ∀ j u, news[j]? = some u → w.cell? (ad.add j) = some u := by
      intro j u hj
      have hjl : j < m * size := by rw [← hl]; exact (List.getElem?_eq_some_iff.1 hj).1
      have hm : 0 < m := by rcases Nat.eq_zero_or_pos m with h | h; · rw [h, Nat.zero_mul] at hjl; omega
                            · exact h
      obtain ⟨b, off, h, _, hc⟩ := hr hm
      cases h
      rw [Addr.add_lit, hc j hjl, ← hnews j hjl, hj]
    obtain ⟨v', w', h2, h3, h4, _⟩ := run_append_own (P := P) w base t ty e i z size bytes ht hi hz hsize hby hzs hsz v n xs hown ad m cap news hl hcell h1 h63 hbytes hbase
    exact ⟨v', w', h2, h3, h4, append_keeps base t ty e i z size bytes ht hi hz hsize hby v n xs hown ad m cap news hl hcell h1 h63 hbytes h2 h3⟩
theorem wp_append_row {o : Oper} {a : Act} {w : World} {K : Act → World → Prop} {Q : Exit → Act → World → Prop} (s x : Operand) (t : TypeId)
    (ho : o.op = .call { callee := .builtin .append, args := #[s, x], argTypes := #[t, t] })
    (base : Nat) (e : TypeId) (i : TypeInfo) (z : Value) (size bytes : Nat) (ht : P.underlying t = some (.slice e)) (hi : P.info? e = some i) (hz : i.zero = some z)
    (hsize : i.size = size) (hby : i.bytes = bytes) (hzs : z.cells.size = size) (hsz : 0 < size) (v : Value) (n : Nat) (xs : List Value) (hs : a.eval s = v) (hown : w.ownsRow base e size v n xs)
    (xv : Value) (m : Nat) (c : Nat → Value) (B : Nat) (hx : a.eval x = xv) (hrow : Row w B size xv m c) (news : List Value) (hl : news.length = m * size) (hnews : ∀ j, j < m * size → news[j]? = some (c j)) (h1 : ∀ u ∈ news, u.oneCell' = true)
    (h63 : n + m ≤ maxLen) (hbytes : (n + m) * bytes ≤ 140737488355328) (hbase : base ≤ w.heap.size)
    (h : ∀ v' w', w'.ownsRow base e size v' (n + m) (xs ++ news) → w.grownBy w' v.ownBlock → w'.ownsRow base e size v n xs → K (a.put o.dst v') w') : o.wp P a w K Q := by
  obtain ⟨v', w', hr, h2, h3, h4⟩ := run_append_row (P := P) w base t o.type e i z size bytes ht hi hz hsize hby hzs hsz v n xs hown xv m c B hrow news hl hnews h1 h63 hbytes hbase
  unfold Oper.wp execOp
  simp only [ho, resolve, invoke, builtin, Sem.run_bind, Sem.run_pure, Result.andThen_ok, List.map_toArray, List.map_cons, List.map_nil, hs, hx, hr]
  exact h v' w' h2 h3 h4
theorem wpList_append_row {ops : Array Oper} {rest : List Oper} {o : Oper} {a : Act} {w : World} {Q : Exit → Act → World → Prop} (hgd : o.guard = none) (s x : Operand) (t : TypeId)
    (ho : o.op = .call { callee := .builtin .append, args := #[s, x], argTypes := #[t, t] })
    (base : Nat) (e : TypeId) (i : TypeInfo) (z : Value) (size bytes : Nat) (ht : P.underlying t = some (.slice e)) (hi : P.info? e = some i) (hz : i.zero = some z)
    (hsize : i.size = size) (hby : i.bytes = bytes) (hzs : z.cells.size = size) (hsz : 0 < size) (v : Value) (n : Nat) (xs : List Value) (hs : a.eval s = v) (hown : w.ownsRow base e size v n xs)
    (xv : Value) (m : Nat) (c : Nat → Value) (B : Nat) (hx : a.eval x = xv) (hrow : Row w B size xv m c) (news : List Value) (hl : news.length = m * size) (hnews : ∀ j, j < m * size → news[j]? = some (c j)) (h1 : ∀ u ∈ news, u.oneCell' = true)
    (h63 : n + m ≤ maxLen) (hbytes : (n + m) * bytes ≤ 140737488355328) (hbase : base ≤ w.heap.size)
    (h : ∀ v' w', w'.ownsRow base e size v' (n + m) (xs ++ news) → w.grownBy w' v.ownBlock → w'.ownsRow base e size v n xs → wpList P ops Q rest (a.put o.dst v') w') : wpList P ops Q (o :: rest) a w :=
  wpList_plain hgd fun _ hK => wp_append_row s x t ho base e i z size bytes ht hi hz hsize hby hzs hsz v n xs hs hown xv m c B hx hrow news hl hnews h1 h63 hbytes hbase fun v' w' h2 h3 h4 => hK _ _ (h v' w' h2 h3 h4)
end
end Go.Proofs.YtilbbnjfaoldoaaGreatDoor

namespace Go.Proofs.YtilbbnjfaoldoaaGreatDoor
open Go Go.RowKit
attribute [local go_sem] cell_grow u64_sAnd u64_sOr u64_sDiff sDiff_all zeqI zneI sAnd_bit_zero sAnd_bit_zeroN sAnd_bit_nonzero rowOf_grow rowOk_grow rowOf_alloc rowOk_alloc

def fitX (r : Rl) (x : List Bool) : Bool := asksB r.kind (blget x 0) (blget x 1) (blget x 2)
theorem Bls.slice {w : World} {B : Nat} {v : Value} {xs : List Bool} (h : Bls w B v xs) : ∃ a c, v = .slice a xs.length c := by obtain ⟨_, a, cap, rfl, _⟩ := h; exact ⟨_, _, rfl⟩
theorem fitsX_any (r : Rl) (hf : RFit r) (h6 : r.kind ≠ 6) (x : List Bool) (hl : x.length = r.vars.length) (xv : Value) (w : World) {B : Nat} (hx : Bls w B xv x) (hB : B ≤ w.heap.size) : Gives Tryz.prog 54 #[.int .i64 r.kind, xv] w (.bool (fitX r x)) := by
  unfold fitX
  rcases hf.1 with ⟨h, _⟩ | ⟨hk, h2⟩ | ⟨hk, h3⟩
  · exact absurd h h6
  · rw [h2] at hl
    match x, hl with
    | [a, b], _ => exact fits2_any r.kind hk a b xv w hx hB
  · rw [h3] at hl
    match x, hl with
    | [a, b, c], _ => exact fits3_any r.kind hk a b c xv w hx hB
def someB (r : Rl) (b : List Bnd) (e : Nat) : Nat → List Bool → Bool
  | 0, x => fitX r x
  | k + 1, x => (!bitB (bget b x.length).inn e && someB r b e k (x ++ [false])) || (bitB (bget b x.length).can e && someB r b e k (x ++ [true]))
theorem boolsV_length (xs : List Bool) : (boolsV xs).length = xs.length := by simp [boolsV]
theorem boolsV_get (xs : List Bool) (i : Nat) (h : i < xs.length) : (boolsV xs)[i]? = some (.bool (blget xs i)) := by simp [boolsV, blget, h]
theorem own_form {w : World} {base : Nat} {e : TypeId} {sz : Nat} {v : Value} {n : Nat} {xs : List Value} (h : w.ownsRow base e sz v n xs) : ∃ a c, v = .slice a n c := by
  rcases h.2 with ⟨rfl, rfl⟩ | ⟨g, cap, cur, rfl, _⟩
  · exact ⟨_, _, rfl⟩
  · exact ⟨_, _, rfl⟩
theorem own_bls {w : World} {base : Nat} {v : Value} {n : Nat} {x : List Bool} {c : Bool} (h : w.ownsRow base 4 1 v (n + 1) (boolsV x ++ [.bool c])) (hn : n + 1 ≤ 140737488355328) : Bls w w.heap.size v (x ++ [c]) := by
  have h2 : w.ownsRow base 4 1 v (n + 1) (boolsV (x ++ [c])) := by rw [← boolsV_append]; exact h
  have hl := h2.1
  rw [boolsV_length, Nat.mul_one] at hl
  exact ownsRow_bls h2 hn hl
theorem row_new1 (w : World) (v : Value) (t : TypeId) : Row (w.alloc (.cells #[v] t)) (w.heap.size + 1) 1 (.slice (some ⟨w.heap.size, 0, none⟩) 1 1) 1 (fun _ => v) :=
  ⟨by decide, _, _, rfl, Nat.le_refl _, by decide, fun _ => ⟨_, _, rfl, Nat.lt_succ_self _, fun i hi => by
    have : i = 0 := by omega
    subst this
    exact cell_of_one (heap_new0 _ _)⟩⟩
theorem one_get (v : Value) : ∀ j, j < 1 * 1 → [v][j]? = some ((fun _ : Nat => v) j) := fun j hj => by
  have : j = 0 := by omega
  subst this; rfl
theorem one_one {v : Value} (h : v.oneCell' = true) : ∀ u ∈ [v], u.oneCell' = true := fun u hu => by
  rw [List.mem_singleton.1 hu]; exact h
/-- What stays true in the region of some. -/
structure SomeAt (w w1 : World) (x1 : Value) (x : List Bool) (Z : World) : Prop where
  own : Z.ownsRow (w.heap.size + 1) 4 1 x1 x.length (boolsV x)
  low : Below w.heap.size w Z
  low1 : Below (w.heap.size + 1) w1 Z
  size : w.heap.size + 1 ≤ Z.heap.size
theorem SomeAt.below {w w1 Z Z' : World} {x1 : Value} {x : List Bool} (h : SomeAt w w1 x1 x Z) (hb : Below Z.heap.size Z Z') : SomeAt w w1 x1 x Z' :=
  ⟨own_ck h.own (CK.below hb), h.low.trans (hb.mono h.low.size), h.low1.trans (hb.mono h.size), Nat.le_trans h.size hb.size⟩
theorem SomeAt.grown {w w1 Z Z' : World} {x1 : Value} {x : List Bool} (h : SomeAt w w1 x1 x Z) (ho : Z'.ownsRow (w.heap.size + 1) 4 1 x1 x.length (boolsV x)) (hg : Z.grownBy Z' x1.ownBlock) : SomeAt w w1 x1 x Z' :=
  ⟨ho, h.low.grown hg (Nat.le_trans (Nat.le_succ _) h.size) (fun q hq => Nat.le_trans (Nat.le_succ _) (h.own.lt q hq).1), h.low1.grown hg h.size (fun q hq => (h.own.lt q hq).1), Nat.le_trans h.size hg.size⟩
end Go.Proofs.YtilbbnjfaoldoaaGreatDoor

namespace Go.Proofs.YtilbbnjfaoldoaaGreatDoor
open Go Go.RowKit
attribute [local go_sem] cell_grow u64_sAnd u64_sOr u64_sDiff sDiff_all zeqI zneI sAnd_bit_zero sAnd_bit_zeroN sAnd_bit_nonzero rowOf_grow rowOk_grow rowOf_alloc rowOk_alloc

theorem allowedAt_bit (b : Bnd) (e : Nat) (is : Bool) : allowedAt b e is = if is then bitB b.can e else !bitB b.inn e := rfl
theorem some2 (r : Rl) (a b : Bnd) (e : Nat) : someB r [a, b] e 2 [] = elemOk [a, b] r.kind e := by
  unfold elemOk
  show ((!bitB a.inn e && ((!bitB b.inn e && asksB r.kind false false false) || (bitB b.can e && asksB r.kind false true false))) || (bitB a.can e && ((!bitB b.inn e && asksB r.kind true false false) || (bitB b.can e && asksB r.kind true true false)))) =
    ((List.range 4).any fun mask => (allowedAt a e (mask.testBit 0) && (allowedAt b e (mask.testBit 1) && true)) && asksB r.kind (mask.testBit 0) (mask.testBit 1) (mask.testBit 2))
  rw [show List.range 4 = [0, 1, 2, 3] from rfl]
  simp only [List.any_cons, List.any_nil, allowedAt_bit]
  show _ = ((!bitB a.inn e && (!bitB b.inn e && true) && asksB r.kind false false false) || ((bitB a.can e && (!bitB b.inn e && true) && asksB r.kind true false false) || ((!bitB a.inn e && (bitB b.can e && true) && asksB r.kind false true false) || ((bitB a.can e && (bitB b.can e && true) && asksB r.kind true true false) || false))))
  generalize asksB r.kind false false false = x0
  generalize asksB r.kind true false false = x1
  generalize asksB r.kind false true false = x2
  generalize asksB r.kind true true false = x3
  cases bitB a.inn e <;> cases bitB a.can e <;> cases bitB b.inn e <;> cases bitB b.can e <;> cases x0 <;> cases x1 <;> cases x2 <;> cases x3 <;> rfl
theorem some3 (r : Rl) (a b c : Bnd) (e : Nat) : someB r [a, b, c] e 3 [] = elemOk [a, b, c] r.kind e := by
  unfold elemOk
  show ((!bitB a.inn e && ((!bitB b.inn e && ((!bitB c.inn e && asksB r.kind false false false) || (bitB c.can e && asksB r.kind false false true))) || (bitB b.can e && ((!bitB c.inn e && asksB r.kind false true false) || (bitB c.can e && asksB r.kind false true true))))) ||
      (bitB a.can e && ((!bitB b.inn e && ((!bitB c.inn e && asksB r.kind true false false) || (bitB c.can e && asksB r.kind true false true))) || (bitB b.can e && ((!bitB c.inn e && asksB r.kind true true false) || (bitB c.can e && asksB r.kind true true true)))))) =
    ((List.range 8).any fun mask => (allowedAt a e (mask.testBit 0) && (allowedAt b e (mask.testBit 1) && (allowedAt c e (mask.testBit 2) && true))) && asksB r.kind (mask.testBit 0) (mask.testBit 1) (mask.testBit 2))
  rw [show List.range 8 = [0, 1, 2, 3, 4, 5, 6, 7] from rfl]
  simp only [List.any_cons, List.any_nil, allowedAt_bit]
  show _ = ((!bitB a.inn e && (!bitB b.inn e && (!bitB c.inn e && true)) && asksB r.kind false false false) || ((bitB a.can e && (!bitB b.inn e && (!bitB c.inn e && true)) && asksB r.kind true false false) || ((!bitB a.inn e && (bitB b.can e && (!bitB c.inn e && true)) && asksB r.kind false true false) || ((bitB a.can e && (bitB b.can e && (!bitB c.inn e && true)) && asksB r.kind true true false) ||
    ((!bitB a.inn e && (!bitB b.inn e && (bitB c.can e && true)) && asksB r.kind false false true) || ((bitB a.can e && (!bitB b.inn e && (bitB c.can e && true)) && asksB r.kind true false true) || ((!bitB a.inn e && (bitB b.can e && (bitB c.can e && true)) && asksB r.kind false true true) || ((bitB a.can e && (bitB b.can e && (bitB c.can e && true)) && asksB r.kind true true true) || false))))))))
  generalize asksB r.kind false false false = x0
  generalize asksB r.kind true false false = x1
  generalize asksB r.kind false true false = x2
  generalize asksB r.kind true true false = x3
  generalize asksB r.kind false false true = x4
  generalize asksB r.kind true false true = x5
  generalize asksB r.kind false true true = x6
  generalize asksB r.kind true true true = x7
  cases bitB a.inn e <;> cases bitB a.can e <;> cases bitB b.inn e <;> cases bitB b.can e <;> cases bitB c.inn e <;> cases bitB c.can e <;> simp only [Bool.not_true, Bool.not_false, Bool.false_and, Bool.true_and, Bool.and_true, Bool.false_or, Bool.or_false] <;> ac_rfl
theorem some_elem (r : Rl) (hf : RFit r) (h6 : r.kind ≠ 6) (l : List Bnd) (hl : l.length = r.vars.length) (e : Nat) : someB r l e l.length [] = elemOk l r.kind e := by
  rcases hf.1 with ⟨h, _⟩ | ⟨_, h2⟩ | ⟨_, h3⟩
  · exact absurd h h6
  · rw [h2] at hl
    match l, hl with
    | [a, b], _ => exact some2 r a b e
  · rw [h3] at hl
    match l, hl with
    | [a, b, c], _ => exact some3 r a b c e
theorem bls_nil (w : World) : Bls w w.heap.size (.slice none 0 0) [] := ⟨Nat.zero_le _, none, 0, rfl, Nat.le_refl _, Nat.zero_le _, fun h => absurd h (Nat.lt_irrefl _)⟩
theorem bget_ofB (b : List Bnd) (vars : List Int) (i : Nat) (h : i < vars.length) : bget (ofB b vars) i = bget b (iget vars i).toNat := by unfold ofB; simp [bget, iget, h]
/-- What stays true in Follows. -/
structure FollowsAt (r : Rl) (va : Option Addr) (vc : Nat) (v e : Nat) (inn : Bool) (rule : Int) (ya : Option Addr) (yn yc : Nat) (w V : World) : Prop where
  r : V.heap[w.heap.size]? = some (.cells #[.int .i64 r.kind, .slice va r.vars.length vc, .int .i64 r.low, .int .i64 r.high] 62 (0, 0))
  f : V.heap[w.heap.size + 1]? = some (.cells #[.int .i64 v, .int .i64 e, .bool inn, .int .i64 rule, .slice ya yn yc] 56 (0, 0))
  low : Below w.heap.size w V
theorem FollowsAt.below {r : Rl} {va : Option Addr} {vc v e : Nat} {inn : Bool} {rule : Int} {ya : Option Addr} {yn yc : Nat} {w V V' : World} (h : FollowsAt r va vc v e inn rule ya yn yc w V) (hb : Below V.heap.size V V') : FollowsAt r va vc v e inn rule ya yn yc w V' :=
  ⟨heap_later h.r hb (Array.getElem?_eq_some_iff.1 h.r).1, heap_later h.f hb (Array.getElem?_eq_some_iff.1 h.f).1, h.low.trans (hb.mono h.low.size)⟩
theorem FollowsAt.cells {r : Rl} {va : Option Addr} {vc v e : Nat} {inn : Bool} {rule : Int} {ya : Option Addr} {yn yc : Nat} {w V : World} (h : FollowsAt r va vc v e inn rule ya yn yc w V) :
    V.cell? ⟨w.heap.size, 0, none⟩ = some (.int .i64 r.kind) ∧ V.cell? ⟨w.heap.size, 1, none⟩ = some (.slice va r.vars.length vc) ∧ V.cell? ⟨w.heap.size, 2, none⟩ = some (.int .i64 r.low) ∧ V.cell? ⟨w.heap.size, 3, none⟩ = some (.int .i64 r.high) ∧
      V.cell? ⟨w.heap.size + 1, 0, none⟩ = some (.int .i64 v) ∧ V.cell? ⟨w.heap.size + 1, 1, none⟩ = some (.int .i64 e) ∧ V.cell? ⟨w.heap.size + 1, 2, none⟩ = some (.bool inn) :=
  ⟨by rw [cell_of_row _ _ _ _ _ _ h.r]; rfl, by rw [cell_of_row _ _ _ _ _ _ h.r]; rfl, by rw [cell_of_row _ _ _ _ _ _ h.r]; rfl, by rw [cell_of_row _ _ _ _ _ _ h.r]; rfl, by rw [cell_of_row _ _ _ _ _ _ h.f]; rfl, by rw [cell_of_row _ _ _ _ _ _ h.f]; rfl, by rw [cell_of_row _ _ _ _ _ _ h.f]; rfl⟩
end Go.Proofs.YtilbbnjfaoldoaaGreatDoor
