/- Appends of whatever slice to a row of the call's own, the old slice kept beside the new one. · The reference: some. · The reference: Can, Follows. -/
import Derived.Test.YtilbbnjfaoldoaaDoorBH
namespace Go.Proofs.YtilbbnjfaoldoaaDoor
open Go Go.RowKit
section
variable {P : Program}
theorem own_shorter {w : World} {base : Nat} {e : TypeId} {sz g n m cap : Nat} {xs news : List Value} (h : w.ownsRow base e sz (.slice (some ⟨g, 0, none⟩) (n + m) cap) (n + m) (xs ++ news)) (hx : xs.length = n * sz) : w.ownsRow base e sz (.slice (some ⟨g, 0, none⟩) n cap) n xs := by
  rcases h.2 with ⟨h', _⟩ | ⟨g', cap', cur, h', hb, hg, h1, h2, h3, h4⟩
  · simp at h'
  · simp only [Value.slice.injEq, Option.some.injEq, Addr.mk.injEq, and_true, true_and] at h'
    obtain ⟨rfl, rfl⟩ := h'
    refine ⟨hx, .inr ⟨g, cap, cur, rfl, hb, hg, by omega, h2, h3, ?_⟩⟩
    have h5 : (cur.toList.take ((n + m) * sz)).take (n * sz) = (xs ++ news).take (n * sz) := by rw [h4]
    rw [List.take_take, Nat.min_eq_left (Nat.mul_le_mul_right _ (by omega))] at h5
    rw [h5, ← hx, List.take_left]
theorem append_keeps {w w' : World} (base : Nat) (t ty e : TypeId) (i : TypeInfo) (z : Value) (size bytes : Nat) (ht : P.underlying t = some (.slice e)) (hi : P.info? e = some i) (hz : i.zero = some z)
    (hsize : i.size = size) (hby : i.bytes = bytes) (v : Value) (n : Nat) (xs : List Value) (hown : w.ownsRow base e size v n xs)
    (ad : Addr) (m c : Nat) (news : List Value) (hl : news.length = m * size) (hnews : ∀ j u, news[j]? = some u → w.cell? (ad.add j) = some u) (h1 : ∀ u ∈ news, u.oneCell' = true)
    (h63 : n + m ≤ maxLen) (hbytes : (n + m) * bytes ≤ 140737488355328) {v' : Value} (hr : (Builtin.append_ #[t, t] ty #[v, .slice (some ad) m c]).run P w = .ok v' w') (hown' : w'.ownsRow base e size v' (n + m) (xs ++ news)) :
    w'.ownsRow base e size v n xs := by
  subst hsize hby
  rcases hown.2 with ⟨rfl, rfl⟩ | ⟨g, cap, cur, rfl, hbg, hg, hnc, hcm, hcs, htake⟩
  · have hx : xs = [] := List.eq_nil_of_length_eq_zero (by simpa using hown.1)
    subst hx
    exact World.ownsRow_nil _ _ _ _
  · by_cases hroom : n + m ≤ cap
    · have hfit : n * i.size + news.length ≤ cur.size := by rw [hl, hcs, ← Nat.add_mul]; exact Nat.mul_le_mul_right _ hroom
      have hr2 := run_append_room (P := P) w t ty e i ht hi g n cap cur hg ad m c news hl hnews h1 hroom hfit
      rw [hr] at hr2
      simp only [Result.ok.injEq] at hr2
      obtain ⟨rfl, rfl⟩ := hr2
      exact own_shorter hown' hown.1
    · have holds : ∀ j u, xs[j]? = some u → w.cell? ((⟨g, 0, none⟩ : Addr).add j) = some u := hown.cells (g := g) rfl
      have hr2 := run_append_grow (P := P) w t ty e i z ht hi hz ⟨g, 0, none⟩ n cap xs hown.1 holds ad m c news hl hnews (by omega) (by unfold maxLen at h63; omega) (growslice_fits (by omega) hbytes)
      rw [hr] at hr2
      simp only [Result.ok.injEq] at hr2
      obtain ⟨rfl, rfl⟩ := hr2
      exact own_ck hown (CK.below ((Below.drewn (Below.refl _ _)).alloc (Nat.le_refl _) _))
/-- Of a slice without an address nothing comes. -/
theorem run_append_none (w : World) (base : Nat) (t ty e : TypeId) (i : TypeInfo) (size : Nat) (ht : P.underlying t = some (.slice e)) (hi : P.info? e = some i) (v : Value) (n : Nat) (xs : List Value) (hown : w.ownsRow base e size v n xs) (c : Nat) :
    (Builtin.append_ #[t, t] ty #[v, .slice none 0 c]).run P w = .ok v w := by
  rcases hown.2 with ⟨rfl, rfl⟩ | ⟨g, cap, cur, rfl, hbg, hg, hnc, hcm, hcs, htake⟩
  · simp [Builtin.append_, run_underlying ht, sizeOf, typeInfo, hi, Builtin.lenOf, Builtin.firstCells]
  · simp [Builtin.append_, run_underlying ht, sizeOf, typeInfo, hi, Builtin.lenOf, Builtin.firstCells, hnc, storeCells]
theorem run_append_row (w : World) (base : Nat) (t ty e : TypeId) (i : TypeInfo) (z : Value) (size bytes : Nat) (ht : P.underlying t = some (.slice e)) (hi : P.info? e = some i) (hz : i.zero = some z)
    (hsize : i.size = size) (hby : i.bytes = bytes) (hzs : z.cells.size = size) (hsz : 0 < size) (v : Value) (n : Nat) (xs : List Value) (hown : w.ownsRow base e size v n xs)
    (xv : Value) (m : Nat) (c : Nat → Value) (B : Nat) (hrow : Row w B size xv m c) (news : List Value) (hl : news.length = m * size) (hnews : ∀ j, j < m * size → news[j]? = some (c j)) (h1 : ∀ u ∈ news, u.oneCell' = true)
    (h63 : n + m ≤ maxLen) (hbytes : (n + m) * bytes ≤ 140737488355328) (hbase : base ≤ w.heap.size) :
    ∃ v' w', (Builtin.append_ #[t, t] ty #[v, xv]).run P w = .ok v' w' ∧ w'.ownsRow base e size v' (n + m) (xs ++ news) ∧ w.grownBy w' v.ownBlock ∧ w'.ownsRow base e size v n xs := by
  obtain ⟨_, a, cap, rfl, _, _, hr⟩ := hrow
  cases a with
  | none =>
    have hm : m = 0 := by
      rcases Nat.eq_zero_or_pos m with h | h
      · exact h
      · obtain ⟨b, off, h, _⟩ := hr h; cases h
    subst hm
    have hn : news = [] := List.eq_nil_of_length_eq_zero (by simpa using hl)
    subst hn
    exact ⟨v, w, run_append_none w base t ty e i size ht hi v n xs hown cap, by simpa using hown, ⟨rfl, rfl, rfl, Nat.le_refl _, fun _ _ _ => rfl⟩, hown⟩
  | some ad =>
    have hcell : ∀ j u, news[j]? = some u → w.cell? (ad.add j) = some u := by
      intro j u hj
      have hjl : j < m * size := by rw [← hl]; exact (List.getElem?_eq_some_iff.1 hj).1
      have hm : 0 < m := by rcases Nat.eq_zero_or_pos m with h | h; · rw [h, Nat.zero_mul] at hjl; omega
                            · exact h
      obtain ⟨b, off, h, _, hc⟩ := hr hm
      cases h
      rw [Addr.add_lit, hc j hjl, ← hnews j hjl, hj]
    obtain ⟨v', w', h2, h3, h4, _⟩ := run_append_own (P := P) w base t ty e i z size bytes ht hi hz hsize hby hzs hsz v n xs hown ad m cap news hl hcell h1 h63 hbytes hbase
    exact ⟨v', w', h2, h3, h4, append_keeps base t ty e i z size bytes ht hi hz hsize hby v n xs hown ad m cap news hl hcell h1 h63 hbytes h2 h3⟩
theorem wp_append_row {o : Oper} {a : Act} {w : World} {K : Act → World → Prop} {Q : Exit → Act → World → Prop} (s x : Operand) (t : TypeId)
    (ho : o.op = .call { callee := .builtin .append, args := #[s, x], argTypes := #[t, t] })
    (base : Nat) (e : TypeId) (i : TypeInfo) (z : Value) (size bytes : Nat) (ht : P.underlying t = some (.slice e)) (hi : P.info? e = some i) (hz : i.zero = some z)
    (hsize : i.size = size) (hby : i.bytes = bytes) (hzs : z.cells.size = size) (hsz : 0 < size) (v : Value) (n : Nat) (xs : List Value) (hs : a.eval s = v) (hown : w.ownsRow base e size v n xs)
    (xv : Value) (m : Nat) (c : Nat → Value) (B : Nat) (hx : a.eval x = xv) (hrow : Row w B size xv m c) (news : List Value) (hl : news.length = m * size) (hnews : ∀ j, j < m * size → news[j]? = some (c j)) (h1 : ∀ u ∈ news, u.oneCell' = true)
    (h63 : n + m ≤ maxLen) (hbytes : (n + m) * bytes ≤ 140737488355328) (hbase : base ≤ w.heap.size)
    (h : ∀ v' w', w'.ownsRow base e size v' (n + m) (xs ++ news) → w.grownBy w' v.ownBlock → w'.ownsRow base e size v n xs → K (a.put o.dst v') w') : o.wp P a w K Q := by
  obtain ⟨v', w', hr, h2, h3, h4⟩ := run_append_row (P := P) w base t o.type e i z size bytes ht hi hz hsize hby hzs hsz v n xs hown xv m c B hrow news hl hnews h1 h63 hbytes hbase
  unfold Oper.wp execOp
  simp only [ho, resolve, invoke, builtin, Sem.run_bind, Sem.run_pure, Result.andThen_ok, List.map_toArray, List.map_cons, List.map_nil, hs, hx, hr]
  exact h v' w' h2 h3 h4
theorem wpList_append_row {ops : Array Oper} {rest : List Oper} {o : Oper} {a : Act} {w : World} {Q : Exit → Act → World → Prop} (hgd : o.guard = none) (s x : Operand) (t : TypeId)
    (ho : o.op = .call { callee := .builtin .append, args := #[s, x], argTypes := #[t, t] })
    (base : Nat) (e : TypeId) (i : TypeInfo) (z : Value) (size bytes : Nat) (ht : P.underlying t = some (.slice e)) (hi : P.info? e = some i) (hz : i.zero = some z)
    (hsize : i.size = size) (hby : i.bytes = bytes) (hzs : z.cells.size = size) (hsz : 0 < size) (v : Value) (n : Nat) (xs : List Value) (hs : a.eval s = v) (hown : w.ownsRow base e size v n xs)
    (xv : Value) (m : Nat) (c : Nat → Value) (B : Nat) (hx : a.eval x = xv) (hrow : Row w B size xv m c) (news : List Value) (hl : news.length = m * size) (hnews : ∀ j, j < m * size → news[j]? = some (c j)) (h1 : ∀ u ∈ news, u.oneCell' = true)
    (h63 : n + m ≤ maxLen) (hbytes : (n + m) * bytes ≤ 140737488355328) (hbase : base ≤ w.heap.size)
    (h : ∀ v' w', w'.ownsRow base e size v' (n + m) (xs ++ news) → w.grownBy w' v.ownBlock → w'.ownsRow base e size v n xs → wpList P ops Q rest (a.put o.dst v') w') : wpList P ops Q (o :: rest) a w :=
  wpList_plain hgd fun _ hK => wp_append_row s x t ho base e i z size bytes ht hi hz hsize hby hzs hsz v n xs hs hown xv m c B hx hrow news hl hnews h1 h63 hbytes hbase fun v' w' h2 h3 h4 => hK _ _ (h v' w' h2 h3 h4)
end
end Go.Proofs.YtilbbnjfaoldoaaDoor

namespace Go.Proofs.YtilbbnjfaoldoaaDoor
open Go Go.RowKit
attribute [local go_sem] cell_grow u64_sAnd u64_sOr u64_sDiff sDiff_all zeqI zneI sAnd_bit_zero sAnd_bit_zeroN sAnd_bit_nonzero rowOf_grow rowOk_grow rowOf_alloc rowOk_alloc

def fitX (r : Rl) (x : List Bool) : Bool := asksB r.kind (blget x 0) (blget x 1) (blget x 2)
theorem Bls.slice {w : World} {B : Nat} {v : Value} {xs : List Bool} (h : Bls w B v xs) : ∃ a c, v = .slice a xs.length c := by obtain ⟨_, a, cap, rfl, _⟩ := h; exact ⟨_, _, rfl⟩
theorem fitsX_any (r : Rl) (hf : RFit r) (h6 : r.kind ≠ 6) (x : List Bool) (hl : x.length = r.vars.length) (xv : Value) (w : World) {B : Nat} (hx : Bls w B xv x) (hB : B ≤ w.heap.size) : Gives Tryd.prog 98 #[.int .i64 r.kind, xv] w (.bool (fitX r x)) := by
  unfold fitX
  rcases hf.1 with ⟨h, _⟩ | ⟨hk, h2⟩ | ⟨hk, h3⟩
  · exact absurd h h6
  · rw [h2] at hl
    match x, hl with
    | [a, b], _ => exact fits2_any r.kind hk a b xv w hx hB
  · rw [h3] at hl
    match x, hl with
    | [a, b, c], _ => exact fits3_any r.kind hk a b c xv w hx hB
def someB (r : Rl) (b : List Bnd) (e : Nat) : Nat → List Bool → Bool
  | 0, x => fitX r x
  | k + 1, x => (!bitB (bget b x.length).inn e && someB r b e k (x ++ [false])) || (bitB (bget b x.length).can e && someB r b e k (x ++ [true]))
theorem boolsV_length (xs : List Bool) : (boolsV xs).length = xs.length := by simp [boolsV]
theorem boolsV_get (xs : List Bool) (i : Nat) (h : i < xs.length) : (boolsV xs)[i]? = some (.bool (blget xs i)) := by simp [boolsV, blget, h]
theorem own_form {w : World} {base : Nat} {e : TypeId} {sz : Nat} {v : Value} {n : Nat} {xs : List Value} (h : w.ownsRow base e sz v n xs) : ∃ a c, v = .slice a n c := by
  rcases h.2 with ⟨rfl, rfl⟩ | ⟨g, cap, cur, rfl, _⟩
  · exact ⟨_, _, rfl⟩
  · exact ⟨_, _, rfl⟩
theorem own_bls {w : World} {base : Nat} {v : Value} {n : Nat} {x : List Bool} {c : Bool} (h : w.ownsRow base 4 1 v (n + 1) (boolsV x ++ [.bool c])) (hn : n + 1 ≤ 140737488355328) : Bls w w.heap.size v (x ++ [c]) := by
  have h2 : w.ownsRow base 4 1 v (n + 1) (boolsV (x ++ [c])) := by rw [← boolsV_append]; exact h
  have hl := h2.1
  rw [boolsV_length, Nat.mul_one] at hl
  exact ownsRow_bls h2 hn hl
theorem row_new1 (w : World) (v : Value) (t : TypeId) : Row (w.alloc (.cells #[v] t)) (w.heap.size + 1) 1 (.slice (some ⟨w.heap.size, 0, none⟩) 1 1) 1 (fun _ => v) :=
  ⟨by decide, _, _, rfl, Nat.le_refl _, by decide, fun _ => ⟨_, _, rfl, Nat.lt_succ_self _, fun i hi => by
    have : i = 0 := by omega
    subst this
    exact cell_of_one (heap_new0 _ _)⟩⟩
theorem one_get (v : Value) : ∀ j, j < 1 * 1 → [v][j]? = some ((fun _ : Nat => v) j) := fun j hj => by
  have : j = 0 := by omega
  subst this; rfl
theorem one_one {v : Value} (h : v.oneCell' = true) : ∀ u ∈ [v], u.oneCell' = true := fun u hu => by
  rw [List.mem_singleton.1 hu]; exact h
/-- What stays true in the region of some. -/
structure SomeAt (w w1 : World) (x1 : Value) (x : List Bool) (Z : World) : Prop where
  own : Z.ownsRow (w.heap.size + 1) 4 1 x1 x.length (boolsV x)
  low : Below w.heap.size w Z
  low1 : Below (w.heap.size + 1) w1 Z
  size : w.heap.size + 1 ≤ Z.heap.size
theorem SomeAt.below {w w1 Z Z' : World} {x1 : Value} {x : List Bool} (h : SomeAt w w1 x1 x Z) (hb : Below Z.heap.size Z Z') : SomeAt w w1 x1 x Z' :=
  ⟨own_ck h.own (CK.below hb), h.low.trans (hb.mono h.low.size), h.low1.trans (hb.mono h.size), Nat.le_trans h.size hb.size⟩
theorem SomeAt.grown {w w1 Z Z' : World} {x1 : Value} {x : List Bool} (h : SomeAt w w1 x1 x Z) (ho : Z'.ownsRow (w.heap.size + 1) 4 1 x1 x.length (boolsV x)) (hg : Z.grownBy Z' x1.ownBlock) : SomeAt w w1 x1 x Z' :=
  ⟨ho, h.low.grown hg (Nat.le_trans (Nat.le_succ _) h.size) (fun q hq => Nat.le_trans (Nat.le_succ _) (h.own.lt q hq).1), h.low1.grown hg h.size (fun q hq => (h.own.lt q hq).1), Nat.le_trans h.size hg.size⟩
/-- The operations of the last statement of some. -/
def someOps : Array Oper := #[
  { dst := some 22, op := Op.move (Operand.tmp 1), type := 22, pos := "ref.go:146", after := #[], guard := none },
  { dst := some 23, op := Op.move (Operand.tmp 9), type := 3, pos := "ref.go:146", after := #[], guard := none },
  { dst := some 24, op := Op.indexAddr 22 (Operand.tmp 22) (Operand.tmp 23), type := 0, pos := "ref.go:146", after := #[{ on := 0, ground := Ground.data }, { on := 1, ground := Ground.data }], guard := none },
  { dst := some 25, op := Op.fieldAddr 67 (Operand.tmp 24) 0, type := 0, pos := "ref.go:146", after := #[{ on := 2, ground := Ground.data }], guard := none },
  { dst := some 26, op := Op.load 65 (Operand.tmp 25), type := 65, pos := "ref.go:146", after := #[{ on := 3, ground := Ground.data }], guard := none },
  { dst := some 27, op := Op.move (Operand.tmp 2), type := 3, pos := "ref.go:146", after := #[], guard := none },
  { dst := some 28, op := Op.call { callee := Callee.value (Operand.func 43), args := #[Operand.tmp 26, Operand.tmp 27], argTypes := #[65, 3] }, type := 4, pos := "ref.go:146", after := #[{ on := 4, ground := Ground.data }, { on := 5, ground := Ground.data }], guard := none },
  { dst := some 29, op := Op.unOp UnOp.not 4 (Operand.tmp 28), type := 4, pos := "ref.go:146", after := #[{ on := 6, ground := Ground.data }], guard := none },
  { dst := some 30, op := Op.move (Operand.tmp 29), type := 4, pos := "ref.go:146", after := #[{ on := 7, ground := Ground.data }, { on := 6, ground := Ground.chain }], guard := none },
  { dst := some 31, op := Op.load 63 (Operand.tmp 4), type := 63, pos := "ref.go:146", after := #[{ on := 8, ground := Ground.guard }], guard := some (8, true) },
  { dst := some 32, op := Op.move (Operand.tmp 1), type := 22, pos := "ref.go:146", after := #[{ on := 8, ground := Ground.guard }], guard := some (8, true) },
  { dst := some 33, op := Op.move (Operand.tmp 2), type := 3, pos := "ref.go:146", after := #[{ on := 8, ground := Ground.guard }], guard := some (8, true) },
  { dst := some 34, op := Op.move (Operand.tmp 3), type := 133, pos := "ref.go:146", after := #[{ on := 8, ground := Ground.guard }], guard := some (8, true) },
  { dst := some 35, op := Op.buildSlice 133 1 #[(0, Operand.const (Value.bool false))], type := 133, pos := "ref.go:146", after := #[{ on := 8, ground := Ground.guard }], guard := some (8, true) },
  { dst := some 36, op := Op.call { callee := Callee.builtin Builtin.append, args := #[Operand.tmp 34, Operand.tmp 35], argTypes := #[133, 133] }, type := 133, pos := "ref.go:146", after := #[{ on := 12, ground := Ground.data }, { on := 13, ground := Ground.data }, { on := 8, ground := Ground.chain }, { on := 8, ground := Ground.guard }], guard := some (8, true) },
  { dst := some 37, op := Op.call { callee := Callee.value (Operand.func 107), args := #[Operand.tmp 31, Operand.tmp 32, Operand.tmp 33, Operand.tmp 36], argTypes := #[63, 22, 3, 133] }, type := 4, pos := "ref.go:146", after := #[{ on := 9, ground := Ground.data }, { on := 10, ground := Ground.data }, { on := 11, ground := Ground.data }, { on := 14, ground := Ground.data }, { on := 14, ground := Ground.chain }, { on := 8, ground := Ground.guard }], guard := some (8, true) },
  { dst := some 38, op := Op.pick (Operand.tmp 30) (Operand.tmp 37) (Operand.const (Value.bool false)), type := 4, pos := "ref.go:146", after := #[{ on := 8, ground := Ground.data }, { on := 15, ground := Ground.data }], guard := none },
  { dst := some 39, op := Op.move (Operand.tmp 38), type := 4, pos := "ref.go:146", after := #[{ on := 16, ground := Ground.data }, { on := 15, ground := Ground.chain }], guard := none },
  { dst := some 40, op := Op.move (Operand.tmp 1), type := 22, pos := "ref.go:146", after := #[{ on := 17, ground := Ground.guard }], guard := some (17, false) },
  { dst := some 41, op := Op.move (Operand.tmp 9), type := 3, pos := "ref.go:146", after := #[{ on := 17, ground := Ground.guard }], guard := some (17, false) },
  { dst := some 42, op := Op.indexAddr 22 (Operand.tmp 40) (Operand.tmp 41), type := 0, pos := "ref.go:146", after := #[{ on := 18, ground := Ground.data }, { on := 19, ground := Ground.data }, { on := 17, ground := Ground.guard }], guard := some (17, false) },
  { dst := some 43, op := Op.fieldAddr 67 (Operand.tmp 42) 1, type := 0, pos := "ref.go:146", after := #[{ on := 20, ground := Ground.data }, { on := 17, ground := Ground.guard }], guard := some (17, false) },
  { dst := some 44, op := Op.load 65 (Operand.tmp 43), type := 65, pos := "ref.go:146", after := #[{ on := 21, ground := Ground.data }, { on := 17, ground := Ground.guard }], guard := some (17, false) },
  { dst := some 45, op := Op.move (Operand.tmp 2), type := 3, pos := "ref.go:146", after := #[{ on := 17, ground := Ground.guard }], guard := some (17, false) },
  { dst := some 46, op := Op.call { callee := Callee.value (Operand.func 43), args := #[Operand.tmp 44, Operand.tmp 45], argTypes := #[65, 3] }, type := 4, pos := "ref.go:146", after := #[{ on := 22, ground := Ground.data }, { on := 23, ground := Ground.data }, { on := 17, ground := Ground.chain }, { on := 17, ground := Ground.guard }], guard := some (17, false) },
  { dst := some 47, op := Op.move (Operand.tmp 46), type := 4, pos := "ref.go:146", after := #[{ on := 24, ground := Ground.data }, { on := 24, ground := Ground.chain }, { on := 17, ground := Ground.guard }], guard := some (17, false) },
  { dst := some 48, op := Op.load 63 (Operand.tmp 4), type := 63, pos := "ref.go:146", after := #[{ on := 25, ground := Ground.guard }], guard := some (25, true) },
  { dst := some 49, op := Op.move (Operand.tmp 1), type := 22, pos := "ref.go:146", after := #[{ on := 25, ground := Ground.guard }], guard := some (25, true) },
  { dst := some 50, op := Op.move (Operand.tmp 2), type := 3, pos := "ref.go:146", after := #[{ on := 25, ground := Ground.guard }], guard := some (25, true) },
  { dst := some 51, op := Op.move (Operand.tmp 3), type := 133, pos := "ref.go:146", after := #[{ on := 25, ground := Ground.guard }], guard := some (25, true) },
  { dst := some 52, op := Op.buildSlice 133 1 #[(0, Operand.const (Value.bool true))], type := 133, pos := "ref.go:146", after := #[{ on := 25, ground := Ground.guard }], guard := some (25, true) },
  { dst := some 53, op := Op.call { callee := Callee.builtin Builtin.append, args := #[Operand.tmp 51, Operand.tmp 52], argTypes := #[133, 133] }, type := 133, pos := "ref.go:146", after := #[{ on := 29, ground := Ground.data }, { on := 30, ground := Ground.data }, { on := 25, ground := Ground.chain }, { on := 25, ground := Ground.guard }], guard := some (25, true) },
  { dst := some 54, op := Op.call { callee := Callee.value (Operand.func 107), args := #[Operand.tmp 48, Operand.tmp 49, Operand.tmp 50, Operand.tmp 53], argTypes := #[63, 22, 3, 133] }, type := 4, pos := "ref.go:146", after := #[{ on := 26, ground := Ground.data }, { on := 27, ground := Ground.data }, { on := 28, ground := Ground.data }, { on := 31, ground := Ground.data }, { on := 31, ground := Ground.chain }, { on := 25, ground := Ground.guard }], guard := some (25, true) },
  { dst := some 55, op := Op.pick (Operand.tmp 47) (Operand.tmp 54) (Operand.const (Value.bool false)), type := 4, pos := "ref.go:146", after := #[{ on := 25, ground := Ground.data }, { on := 32, ground := Ground.data }, { on := 17, ground := Ground.guard }], guard := some (17, false) },
  { dst := some 56, op := Op.pick (Operand.tmp 39) (Operand.const (Value.bool true)) (Operand.tmp 55), type := 4, pos := "ref.go:146", after := #[{ on := 17, ground := Ground.data }, { on := 33, ground := Ground.data }], guard := none },
  { dst := some 8, op := Op.assign (Operand.tmp 56), type := 4, pos := "ref.go:146", after := #[{ on := 34, ground := Ground.data }, { on := 32, ground := Ground.chain }, { on := 0, ground := Ground.phase }, { on := 1, ground := Ground.phase }, { on := 2, ground := Ground.phase }, { on := 3, ground := Ground.phase }, { on := 4, ground := Ground.phase }, { on := 5, ground := Ground.phase }, { on := 6, ground := Ground.phase }, { on := 7, ground := Ground.phase }, { on := 8, ground := Ground.phase }, { on := 9, ground := Ground.phase }, { on := 10, ground := Ground.phase }, { on := 11, ground := Ground.phase }, { on := 12, ground := Ground.phase }, { on := 13, ground := Ground.phase }, { on := 14, ground := Ground.phase }, { on := 15, ground := Ground.phase }, { on := 16, ground := Ground.phase }, { on := 17, ground := Ground.phase }, { on := 18, ground := Ground.phase }, { on := 19, ground := Ground.phase }, { on := 20, ground := Ground.phase }, { on := 21, ground := Ground.phase }, { on := 22, ground := Ground.phase }, { on := 23, ground := Ground.phase }, { on := 24, ground := Ground.phase }, { on := 25, ground := Ground.phase }, { on := 26, ground := Ground.phase }, { on := 27, ground := Ground.phase }, { on := 28, ground := Ground.phase }, { on := 29, ground := Ground.phase }, { on := 30, ground := Ground.phase }, { on := 31, ground := Ground.phase }, { on := 32, ground := Ground.phase }, { on := 33, ground := Ground.phase }, { on := 34, ground := Ground.phase }], guard := none }]
set_option maxRecDepth 100000 in
set_option maxHeartbeats 4000000 in
theorem refSome_any (r : Rl) (hf : RFit r) (h6 : r.kind ≠ 6) (va : Option Addr) (vn vc : Nat) (b : List Bnd) (hbl : b.length = r.vars.length) (hu : U64s b) (e : Nat) (he : e < 12) : ∀ (k : Nat) (x : List Bool) (bv xv : Value) (w : World) (B : Nat), x.length + k = b.length → Bnds w B bv b → Bls w B xv x → B ≤ w.heap.size →
    Gives Tryd.prog 107 #[.agg #[.int .i64 r.kind, .slice va vn vc, .int .i64 r.low, .int .i64 r.high], bv, .int .i64 e, xv] w (.bool (someB r b e k x))
  | 0, x, bv, xv, w, B, hk, hb, hx, hB => by
    unfold Gives
    have hxl : x.length = r.vars.length := by omega
    have h1 : (((x.length : Nat) : Int) == ((b.length : Nat) : Int)) = true := by rw [hbl, hxl]; simp
    have HX := Lib.hid hx; have HF := Lib.hid hf; have HXL := Lib.hid hxl
    obtain ⟨ba, bc, rfl⟩ := hb.slice
    obtain ⟨xa, xc, rfl⟩ := hx.slice
    have HB0 := Lib.hid (Below.new1 w (.cells #[.int .i64 r.kind, .slice va vn vc, .int .i64 r.low, .int .i64 r.high] 63))
    clear hb hx hf hxl hk hbl hu
    go_enter Tryd.func107, Tryd.ntmps107
    go_wp2_with fail
    refine (fitsX_any r HF.out h6 x HXL.out _ _ (HX.out.below HB0.out hB) (by simp; omega)).mono ?_
    rintro q w2 ⟨rfl, hb2⟩
    have HB2 := Lib.hid (HB0.out.trans (hb2.mono HB0.out.size))
    clear hb2
    go_wp2
    go_ret
    exact ⟨rfl, HB2.out⟩
  | k + 1, x, bv, xv, w, B, hk, hb, hx, hB => by
    unfold Gives
    have hlt : x.length < b.length := by omega
    have h1 : (((x.length : Nat) : Int) == ((b.length : Nat) : Int)) = false := by rw [beq_eq_false_iff_ne]; omega
    have h1' : ¬ ((x.length : Int) = (b.length : Int)) := by omega
    have hb3 : b.length ≤ 3 := by rcases hf.1 with h | h | h <;> omega
    have HX := Lib.hid hx; have HBV := Lib.hid hb; have HU := Lib.hid hu; have HF := Lib.hid hf; have HBL := Lib.hid hbl
    obtain ⟨_, ba, bc, rfl, _, _, hbr⟩ := hb
    obtain ⟨bb, bo, rfl, hbB, hbcell⟩ := hbr (by omega)
    obtain ⟨xa, xc, rfl⟩ := hx.slice
    obtain ⟨i0, hi, hz0, hz1, hz2⟩ := info_parts Tryd.info4
    have hd0 : w.cell? ⟨bb, bo + x.length * 2, none⟩ = some (.int .u64 ((bget b x.length).inn : Nat)) := by rw [hbcell _ (by omega), bcellAt_inn]
    have hd1 : w.cell? ⟨bb, bo + x.length * 2 + 1, none⟩ = some (.int .u64 ((bget b x.length).can : Nat)) := by rw [← bcellAt_can]; exact hbcell (x.length * 2 + 1) (by omega)
    have K0 := Lib.hid (heap_new0 w (.cells #[.int .i64 r.kind, .slice va vn vc, .int .i64 r.low, .int .i64 r.high] 63))
    have HB0 := Lib.hid (Below.new1 w (.cells #[.int .i64 r.kind, .slice va vn vc, .int .i64 r.low, .int .i64 r.high] 63))
    have HD0 := Lib.hid hd0; have HD1 := Lib.hid hd1; have HK := Lib.hid hk
    have IH := Lib.hid (fun (x' : List Bool) (bv xv : Value) (w : World) (B : Nat) => refSome_any r hf h6 va vn vc b hbl hu e he k x' bv xv w B)
    clear hbr hbcell hx hf hbl hu hd0 hd1 hk
    have HXR := Lib.hid (HX.out.below HB0.out hB)
    go_enter Tryd.func107, Tryd.ntmps107
    go_wp2_with (at_builtin; refine wpList_append_row rfl _ _ 133 rfl (w.heap.size + 1) 4 i0 (.bool false) 1 1 Tryd.underlying133 hi hz0 hz1 hz2 rfl (by decide) _ 0 [] rfl (World.ownsRow_nil _ _ _ _) _ x.length _ B rfl HXR.out (boolsV x) (by rw [boolsV_length, Nat.mul_one]) ?c1 (boolsV_one x) ?c3 ?c4 ?c5 ?_)
    case c1 => intro j hj; exact boolsV_get x j (by omega)
    case c3 => unfold maxLen; omega
    case c4 => omega
    case c5 => simp
    intro x1 w1 hown hgrow _
    have hn0 := (Below.new1 w (.cells #[.int .i64 r.kind, .slice va vn vc, .int .i64 r.low, .int .i64 r.high] 63))
    have hb1 : Below (w.heap.size + 1) (w.alloc (.cells #[.int .i64 r.kind, .slice va vn vc, .int .i64 r.low, .int .i64 r.high] 63)) w1 := (Below.refl _ _).grown hgrow (by simp) (fun q hq => by simp [Value.ownBlock] at hq)
    have k1 := heap_later K0.out hb1 (Nat.lt_succ_self _)
    have hb01 : Below w.heap.size w w1 := hn0.trans (hb1.mono (Nat.le_succ _))
    have hz : w.heap.size + 1 ≤ w1.heap.size := by have := hb1.size; simpa using this
    have SL : Hid (∀ Z : World, SomeAt w w1 x1 x Z → Z.cell? ⟨w.heap.size, 0, none⟩ = some (.int .i64 r.kind) ∧ Z.cell? ⟨w.heap.size, 1, none⟩ = some (.slice va vn vc) ∧ Z.cell? ⟨w.heap.size, 2, none⟩ = some (.int .i64 r.low) ∧ Z.cell? ⟨w.heap.size, 3, none⟩ = some (.int .i64 r.high) ∧
        Z.cell? ⟨bb, bo + x.length * 2, none⟩ = some (.int .u64 ((bget b x.length).inn : Nat)) ∧ Z.cell? ⟨bb, bo + x.length * 2 + 1, none⟩ = some (.int .u64 ((bget b x.length).can : Nat))) := Lib.hid fun Z hZ => by
      have k2 := heap_later k1 hZ.low1 (Nat.lt_succ_self _)
      refine ⟨by rw [cell_of_row _ _ _ _ _ _ k2]; rfl, by rw [cell_of_row _ _ _ _ _ _ k2]; rfl, by rw [cell_of_row _ _ _ _ _ _ k2]; rfl, by rw [cell_of_row _ _ _ _ _ _ k2]; rfl, ?_, ?_⟩
      · rw [hZ.low.cell (p := ⟨bb, bo + x.length * 2, none⟩) (by show bb < _; omega)]; exact HD0.out
      · rw [hZ.low.cell (p := ⟨bb, bo + x.length * 2 + 1, none⟩) (by show bb < _; omega)]; exact HD1.out
    have hs1 : SomeAt w w1 x1 x w1.drew := ⟨own_ck (by simpa using hown) (CK.below (Below.drewn (Below.refl _ _))), Below.drewn hb01, Below.drewn (Below.refl _ _), hz⟩
    obtain ⟨x1a, x1c, rfl⟩ := own_form hs1.own
    have hu := HU.out.get x.length
    have hu1 := hu.1; have hu2 := hu.2
    have HS1 := Lib.hid hs1
    clear hown hgrow hn0 hb1 k1 hb01 hs1 hu HD0 HD1 HXR HB0 K0 HX i0 hi hz0 hz1 hz2
    go_wp2_with fail
    refine wp_region_held_drew (S := SomeAt w w1 (.slice x1a x.length x1c) x) (by kernel_rfl) HS1.out (fun hHeld => ?_)
    refine abs_anyHS (fun _ => True) trivial hHeld ?_
    clear hHeld HS1
    rintro V - hHeld
    change wpAnyH _ _ someOps _ _ _ _ _ _
    refine wpAnyH_take (i := 0) (oi := { dst := some 22, op := Op.move (Operand.tmp 1), type := 22, pos := "ref.go:146", after := #[], guard := none }) (v := ?_) rfl (by kernel_rfl) (by kernel_rfl) (by kernel_rfl) (fun _ _ _ h => h) (Or.inl ⟨by kernel_rfl, ?_⟩) hHeld ?_
    rotate_left
    · intro w hSw
      obtain ⟨hs0, hs1, hs2, hs3, hs4, hs5⟩ := SL.out w hSw
      clear hSw
      go_simp
      try with_reducible rfl
    try simp only [Act.put, List.setIfInBounds_toArray, List.set_cons_zero, List.set_cons_succ]
    refine wpAnyH_take (i := 1) (oi := { dst := some 23, op := Op.move (Operand.tmp 9), type := 3, pos := "ref.go:146", after := #[], guard := none }) (v := ?_) rfl (by kernel_rfl) (by kernel_rfl) (by kernel_rfl) (fun _ _ _ h => h) (Or.inl ⟨by kernel_rfl, ?_⟩) hHeld ?_
    rotate_left
    · intro w hSw
      obtain ⟨hs0, hs1, hs2, hs3, hs4, hs5⟩ := SL.out w hSw
      clear hSw
      go_simp
      try with_reducible rfl
    try simp only [Act.put, List.setIfInBounds_toArray, List.set_cons_zero, List.set_cons_succ]
    refine wpAnyH_take (i := 2) (oi := { dst := some 24, op := Op.indexAddr 22 (Operand.tmp 22) (Operand.tmp 23), type := 0, pos := "ref.go:146", after := #[{ on := 0, ground := Ground.data }, { on := 1, ground := Ground.data }], guard := none }) (v := ?_) rfl (by kernel_rfl) (by kernel_rfl) (by kernel_rfl) (fun _ _ _ h => h) (Or.inl ⟨by kernel_rfl, ?_⟩) hHeld ?_
    rotate_left
    · intro w hSw
      obtain ⟨hs0, hs1, hs2, hs3, hs4, hs5⟩ := SL.out w hSw
      clear hSw
      go_simp
      try with_reducible rfl
    try simp only [Act.put, List.setIfInBounds_toArray, List.set_cons_zero, List.set_cons_succ]
    refine wpAnyH_take (i := 3) (oi := { dst := some 25, op := Op.fieldAddr 67 (Operand.tmp 24) 0, type := 0, pos := "ref.go:146", after := #[{ on := 2, ground := Ground.data }], guard := none }) (v := ?_) rfl (by kernel_rfl) (by kernel_rfl) (by kernel_rfl) (fun _ _ _ h => h) (Or.inl ⟨by kernel_rfl, ?_⟩) hHeld ?_
    rotate_left
    · intro w hSw
      obtain ⟨hs0, hs1, hs2, hs3, hs4, hs5⟩ := SL.out w hSw
      clear hSw
      go_simp
      try with_reducible rfl
    try simp only [Act.put, List.setIfInBounds_toArray, List.set_cons_zero, List.set_cons_succ]
    refine wpAnyH_take (i := 4) (oi := { dst := some 26, op := Op.load 65 (Operand.tmp 25), type := 65, pos := "ref.go:146", after := #[{ on := 3, ground := Ground.data }], guard := none }) (v := ?_) rfl (by kernel_rfl) (by kernel_rfl) (by kernel_rfl) (fun _ _ _ h => h) (Or.inl ⟨by kernel_rfl, ?_⟩) hHeld ?_
    rotate_left
    · intro w hSw
      obtain ⟨hs0, hs1, hs2, hs3, hs4, hs5⟩ := SL.out w hSw
      clear hSw
      go_simp
      try with_reducible rfl
    try simp only [Act.put, List.setIfInBounds_toArray, List.set_cons_zero, List.set_cons_succ]
    refine wpAnyH_take (i := 5) (oi := { dst := some 27, op := Op.move (Operand.tmp 2), type := 3, pos := "ref.go:146", after := #[], guard := none }) (v := ?_) rfl (by kernel_rfl) (by kernel_rfl) (by kernel_rfl) (fun _ _ _ h => h) (Or.inl ⟨by kernel_rfl, ?_⟩) hHeld ?_
    rotate_left
    · intro w hSw
      obtain ⟨hs0, hs1, hs2, hs3, hs4, hs5⟩ := SL.out w hSw
      clear hSw
      go_simp
      try with_reducible rfl
    try simp only [Act.put, List.setIfInBounds_toArray, List.set_cons_zero, List.set_cons_succ]
    obtain ⟨i1, hin⟩ : ∃ i1, bitB (bget b x.length).inn e = i1 := ⟨_, rfl⟩
    obtain ⟨c1, hca⟩ : ∃ c1, bitB (bget b x.length).can e = c1 := ⟨_, rfl⟩
    obtain ⟨r1, hr1⟩ : ∃ r1, someB r b e k (x ++ [false]) = r1 := ⟨_, rfl⟩
    obtain ⟨r2, hr2⟩ : ∃ r2, someB r b e k (x ++ [true]) = r2 := ⟨_, rfl⟩
    have HS : Hid (someB r b e (k + 1) x = ((!i1 && r1) || (c1 && r2))) := Lib.hid (by rw [← hin, ← hca, ← hr1, ← hr2]; rfl)
    have HIN := Lib.hid hin; have HCA := Lib.hid hca; have HR1 := Lib.hid hr1; have HR2 := Lib.hid hr2
    clear hin hca hr1 hr2
    refine wpAnyH_ready (rs := [6]) (by kernel_rfl) (by simp) ?_
    refine AllReadyH.cons (o := { dst := some 28, op := Op.call { callee := Callee.value (Operand.func 43), args := #[Operand.tmp 26, Operand.tmp 27], argTypes := #[65, 3] }, type := 4, pos := "ref.go:146", after := #[{ on := 4, ground := Ground.data }, { on := 5, ground := Ground.data }], guard := none }) rfl (fun K hK => ?_) AllReadyH.nil
    go_simp
    refine (has_any _ e _ hu1 he).mono ?_
    rintro e1 w' ⟨rfl, rfl⟩
    rw [HIN.out]
    go_wp2_with fail
    refine hK.out _ _ (hHeld) (fun hHeld => ?_)
    clear hK K
    try simp only [Act.put, List.setIfInBounds_toArray, List.set_cons_zero, List.set_cons_succ]
    cases i1
    case false =>
      refine wpAnyH_take (i := 7) (oi := { dst := some 29, op := Op.unOp UnOp.not 4 (Operand.tmp 28), type := 4, pos := "ref.go:146", after := #[{ on := 6, ground := Ground.data }], guard := none }) (v := ?_) rfl (by kernel_rfl) (by kernel_rfl) (by kernel_rfl) (fun _ _ _ h => h) (Or.inl ⟨by kernel_rfl, ?_⟩) hHeld ?_
      rotate_left
      · intro w hSw
        obtain ⟨hs0, hs1, hs2, hs3, hs4, hs5⟩ := SL.out w hSw
        clear hSw
        go_simp
        try with_reducible rfl
      try simp only [Act.put, List.setIfInBounds_toArray, List.set_cons_zero, List.set_cons_succ]
      refine wpAnyH_take (i := 8) (oi := { dst := some 30, op := Op.move (Operand.tmp 29), type := 4, pos := "ref.go:146", after := #[{ on := 7, ground := Ground.data }, { on := 6, ground := Ground.chain }], guard := none }) (v := ?_) rfl (by kernel_rfl) (by kernel_rfl) (by kernel_rfl) (fun _ _ _ h => h) (Or.inl ⟨by kernel_rfl, ?_⟩) hHeld ?_
      rotate_left
      · intro w hSw
        obtain ⟨hs0, hs1, hs2, hs3, hs4, hs5⟩ := SL.out w hSw
        clear hSw
        go_simp
        try with_reducible rfl
      try simp only [Act.put, List.setIfInBounds_toArray, List.set_cons_zero, List.set_cons_succ]
      refine wpAnyH_take (i := 9) (oi := { dst := some 31, op := Op.load 63 (Operand.tmp 4), type := 63, pos := "ref.go:146", after := #[{ on := 8, ground := Ground.guard }], guard := some (8, true) }) (v := ?_) rfl (by kernel_rfl) (by kernel_rfl) (by kernel_rfl) (fun _ _ _ h => h) (Or.inl ⟨by kernel_rfl, ?_⟩) hHeld ?_
      rotate_left
      · intro w hSw
        obtain ⟨hs0, hs1, hs2, hs3, hs4, hs5⟩ := SL.out w hSw
        clear hSw
        go_simp
        try with_reducible rfl
      try simp only [Act.put, List.setIfInBounds_toArray, List.set_cons_zero, List.set_cons_succ]
      refine wpAnyH_take (i := 10) (oi := { dst := some 32, op := Op.move (Operand.tmp 1), type := 22, pos := "ref.go:146", after := #[{ on := 8, ground := Ground.guard }], guard := some (8, true) }) (v := ?_) rfl (by kernel_rfl) (by kernel_rfl) (by kernel_rfl) (fun _ _ _ h => h) (Or.inl ⟨by kernel_rfl, ?_⟩) hHeld ?_
      rotate_left
      · intro w hSw
        obtain ⟨hs0, hs1, hs2, hs3, hs4, hs5⟩ := SL.out w hSw
        clear hSw
        go_simp
        try with_reducible rfl
      try simp only [Act.put, List.setIfInBounds_toArray, List.set_cons_zero, List.set_cons_succ]
      refine wpAnyH_take (i := 11) (oi := { dst := some 33, op := Op.move (Operand.tmp 2), type := 3, pos := "ref.go:146", after := #[{ on := 8, ground := Ground.guard }], guard := some (8, true) }) (v := ?_) rfl (by kernel_rfl) (by kernel_rfl) (by kernel_rfl) (fun _ _ _ h => h) (Or.inl ⟨by kernel_rfl, ?_⟩) hHeld ?_
      rotate_left
      · intro w hSw
        obtain ⟨hs0, hs1, hs2, hs3, hs4, hs5⟩ := SL.out w hSw
        clear hSw
        go_simp
        try with_reducible rfl
      try simp only [Act.put, List.setIfInBounds_toArray, List.set_cons_zero, List.set_cons_succ]
      refine wpAnyH_take (i := 12) (oi := { dst := some 34, op := Op.move (Operand.tmp 3), type := 133, pos := "ref.go:146", after := #[{ on := 8, ground := Ground.guard }], guard := some (8, true) }) (v := ?_) rfl (by kernel_rfl) (by kernel_rfl) (by kernel_rfl) (fun _ _ _ h => h) (Or.inl ⟨by kernel_rfl, ?_⟩) hHeld ?_
      rotate_left
      · intro w hSw
        obtain ⟨hs0, hs1, hs2, hs3, hs4, hs5⟩ := SL.out w hSw
        clear hSw
        go_simp
        try with_reducible rfl
      try simp only [Act.put, List.setIfInBounds_toArray, List.set_cons_zero, List.set_cons_succ]
      refine wpAnyH_ready (rs := [13]) (by kernel_rfl) (by simp) ?_
      refine AllReadyH.cons (o := { dst := some 35, op := Op.buildSlice 133 1 #[(0, Operand.const (Value.bool false))], type := 133, pos := "ref.go:146", after := #[{ on := 8, ground := Ground.guard }], guard := some (8, true) }) rfl (fun K hK => ?_) AllReadyH.nil
      go_simp
      refine hK.out _ _ (hHeld.below (Below.new1 _ _)) (fun hHeld => ?_)
      clear hK K
      try simp only [Act.put, List.setIfInBounds_toArray, List.set_cons_zero, List.set_cons_succ]
      refine wpAnyH_ready (rs := [14]) (by kernel_rfl) (by simp) ?_
      refine AllReadyH.cons (o := { dst := some 36, op := Op.call { callee := Callee.builtin Builtin.append, args := #[Operand.tmp 34, Operand.tmp 35], argTypes := #[133, 133] }, type := 133, pos := "ref.go:146", after := #[{ on := 12, ground := Ground.data }, { on := 13, ground := Ground.data }, { on := 8, ground := Ground.chain }, { on := 8, ground := Ground.guard }], guard := some (8, true) }) rfl (fun K hK => ?_) AllReadyH.nil
      rw [if_pos (by rfl)]
      obtain ⟨i0, hi, hz0, hz1, hz2⟩ := info_parts Tryd.info4
      refine wp_append_row _ _ 133 rfl (w.heap.size + 1) 4 i0 (.bool false) 1 1 Tryd.underlying133 hi hz0 hz1 hz2 rfl (by decide) (.slice x1a x.length x1c) x.length (boolsV x) rfl hHeld.own _ 1 (fun _ => .bool false) _ rfl (row_new1 _ _ _) [.bool false] rfl (one_get _) (one_one rfl) (by unfold maxLen; omega) (by omega) hHeld.size ?_
      intro x2 V3 hown2 hgrow2 hown1
      obtain ⟨xa2, xc2, rfl⟩ := own_form hown2
      have hs3 := hHeld.grown hown1 hgrow2
      have hbl := own_bls hown2 (by omega)
      have HBL := Lib.hid hbl
      clear hown2 hgrow2 hown1 hbl i0 hi hz0 hz1 hz2
      refine hK.out _ _ (hs3) (fun hHeld => ?_)
      clear hK K
      try simp only [Act.put, List.setIfInBounds_toArray, List.set_cons_zero, List.set_cons_succ]
      clear hs3
      refine wpAnyH_ready (rs := [15]) (by kernel_rfl) (by simp) ?_
      refine AllReadyH.cons (o := { dst := some 37, op := Op.call { callee := Callee.value (Operand.func 107), args := #[Operand.tmp 31, Operand.tmp 32, Operand.tmp 33, Operand.tmp 36], argTypes := #[63, 22, 3, 133] }, type := 4, pos := "ref.go:146", after := #[{ on := 9, ground := Ground.data }, { on := 10, ground := Ground.data }, { on := 11, ground := Ground.data }, { on := 14, ground := Ground.data }, { on := 14, ground := Ground.chain }, { on := 8, ground := Ground.guard }], guard := some (8, true) }) rfl (fun K hK => ?_) AllReadyH.nil
      go_simp
      refine (IH.out (x ++ [false]) _ _ _ _ (by have := HK.out; simp; omega) ((HBV.out.below hHeld.low hB).mono (Nat.le_trans hB hHeld.low.size)) HBL.out (Nat.le_refl _)).mono ?_
      rintro e1 V4 ⟨rfl, hb4⟩
      rw [HR1.out]
      go_wp2_with fail
      refine hK.out _ _ (hHeld.below hb4) (fun hHeld => ?_)
      clear hK K
      try simp only [Act.put, List.setIfInBounds_toArray, List.set_cons_zero, List.set_cons_succ]
      clear hb4 HBL
      refine wpAnyH_take (i := 16) (oi := { dst := some 38, op := Op.pick (Operand.tmp 30) (Operand.tmp 37) (Operand.const (Value.bool false)), type := 4, pos := "ref.go:146", after := #[{ on := 8, ground := Ground.data }, { on := 15, ground := Ground.data }], guard := none }) (v := ?_) rfl (by kernel_rfl) (by kernel_rfl) (by kernel_rfl) (fun _ _ _ h => h) (Or.inl ⟨by kernel_rfl, ?_⟩) hHeld ?_
      rotate_left
      · intro w hSw
        obtain ⟨hs0, hs1, hs2, hs3, hs4, hs5⟩ := SL.out w hSw
        clear hSw
        go_simp
        try with_reducible rfl
      try simp only [Act.put, List.setIfInBounds_toArray, List.set_cons_zero, List.set_cons_succ]
      refine wpAnyH_take (i := 17) (oi := { dst := some 39, op := Op.move (Operand.tmp 38), type := 4, pos := "ref.go:146", after := #[{ on := 16, ground := Ground.data }, { on := 15, ground := Ground.chain }], guard := none }) (v := ?_) rfl (by kernel_rfl) (by kernel_rfl) (by kernel_rfl) (fun _ _ _ h => h) (Or.inl ⟨by kernel_rfl, ?_⟩) hHeld ?_
      rotate_left
      · intro w hSw
        obtain ⟨hs0, hs1, hs2, hs3, hs4, hs5⟩ := SL.out w hSw
        clear hSw
        go_simp
        try with_reducible rfl
      try simp only [Act.put, List.setIfInBounds_toArray, List.set_cons_zero, List.set_cons_succ]
      cases r1
      case true =>
        refine wpAnyH_take (i := 18) (oi := { dst := some 40, op := Op.move (Operand.tmp 1), type := 22, pos := "ref.go:146", after := #[{ on := 17, ground := Ground.guard }], guard := some (17, false) }) (v := undef) rfl (by kernel_rfl) (by kernel_rfl) (by kernel_rfl) (fun _ _ _ h => h) (Or.inr ⟨by kernel_rfl, rfl⟩) hHeld ?_
        try simp only [Act.put, List.setIfInBounds_toArray, List.set_cons_zero, List.set_cons_succ]
        refine wpAnyH_take (i := 19) (oi := { dst := some 41, op := Op.move (Operand.tmp 9), type := 3, pos := "ref.go:146", after := #[{ on := 17, ground := Ground.guard }], guard := some (17, false) }) (v := undef) rfl (by kernel_rfl) (by kernel_rfl) (by kernel_rfl) (fun _ _ _ h => h) (Or.inr ⟨by kernel_rfl, rfl⟩) hHeld ?_
        try simp only [Act.put, List.setIfInBounds_toArray, List.set_cons_zero, List.set_cons_succ]
        refine wpAnyH_take (i := 20) (oi := { dst := some 42, op := Op.indexAddr 22 (Operand.tmp 40) (Operand.tmp 41), type := 0, pos := "ref.go:146", after := #[{ on := 18, ground := Ground.data }, { on := 19, ground := Ground.data }, { on := 17, ground := Ground.guard }], guard := some (17, false) }) (v := undef) rfl (by kernel_rfl) (by kernel_rfl) (by kernel_rfl) (fun _ _ _ h => h) (Or.inr ⟨by kernel_rfl, rfl⟩) hHeld ?_
        try simp only [Act.put, List.setIfInBounds_toArray, List.set_cons_zero, List.set_cons_succ]
        refine wpAnyH_take (i := 21) (oi := { dst := some 43, op := Op.fieldAddr 67 (Operand.tmp 42) 1, type := 0, pos := "ref.go:146", after := #[{ on := 20, ground := Ground.data }, { on := 17, ground := Ground.guard }], guard := some (17, false) }) (v := undef) rfl (by kernel_rfl) (by kernel_rfl) (by kernel_rfl) (fun _ _ _ h => h) (Or.inr ⟨by kernel_rfl, rfl⟩) hHeld ?_
        try simp only [Act.put, List.setIfInBounds_toArray, List.set_cons_zero, List.set_cons_succ]
        refine wpAnyH_take (i := 22) (oi := { dst := some 44, op := Op.load 65 (Operand.tmp 43), type := 65, pos := "ref.go:146", after := #[{ on := 21, ground := Ground.data }, { on := 17, ground := Ground.guard }], guard := some (17, false) }) (v := undef) rfl (by kernel_rfl) (by kernel_rfl) (by kernel_rfl) (fun _ _ _ h => h) (Or.inr ⟨by kernel_rfl, rfl⟩) hHeld ?_
        try simp only [Act.put, List.setIfInBounds_toArray, List.set_cons_zero, List.set_cons_succ]
        refine wpAnyH_take (i := 23) (oi := { dst := some 45, op := Op.move (Operand.tmp 2), type := 3, pos := "ref.go:146", after := #[{ on := 17, ground := Ground.guard }], guard := some (17, false) }) (v := undef) rfl (by kernel_rfl) (by kernel_rfl) (by kernel_rfl) (fun _ _ _ h => h) (Or.inr ⟨by kernel_rfl, rfl⟩) hHeld ?_
        try simp only [Act.put, List.setIfInBounds_toArray, List.set_cons_zero, List.set_cons_succ]
        refine wpAnyH_take (i := 24) (oi := { dst := some 46, op := Op.call { callee := Callee.value (Operand.func 43), args := #[Operand.tmp 44, Operand.tmp 45], argTypes := #[65, 3] }, type := 4, pos := "ref.go:146", after := #[{ on := 22, ground := Ground.data }, { on := 23, ground := Ground.data }, { on := 17, ground := Ground.chain }, { on := 17, ground := Ground.guard }], guard := some (17, false) }) (v := undef) rfl (by kernel_rfl) (by kernel_rfl) (by kernel_rfl) (fun _ _ _ h => h) (Or.inr ⟨by kernel_rfl, rfl⟩) hHeld ?_
        try simp only [Act.put, List.setIfInBounds_toArray, List.set_cons_zero, List.set_cons_succ]
        refine wpAnyH_take (i := 25) (oi := { dst := some 47, op := Op.move (Operand.tmp 46), type := 4, pos := "ref.go:146", after := #[{ on := 24, ground := Ground.data }, { on := 24, ground := Ground.chain }, { on := 17, ground := Ground.guard }], guard := some (17, false) }) (v := undef) rfl (by kernel_rfl) (by kernel_rfl) (by kernel_rfl) (fun _ _ _ h => h) (Or.inr ⟨by kernel_rfl, rfl⟩) hHeld ?_
        try simp only [Act.put, List.setIfInBounds_toArray, List.set_cons_zero, List.set_cons_succ]
        refine wpAnyH_take (i := 26) (oi := { dst := some 48, op := Op.load 63 (Operand.tmp 4), type := 63, pos := "ref.go:146", after := #[{ on := 25, ground := Ground.guard }], guard := some (25, true) }) (v := undef) rfl (by kernel_rfl) (by kernel_rfl) (by kernel_rfl) (fun _ _ _ h => h) (Or.inr ⟨by kernel_rfl, rfl⟩) hHeld ?_
        try simp only [Act.put, List.setIfInBounds_toArray, List.set_cons_zero, List.set_cons_succ]
        refine wpAnyH_take (i := 27) (oi := { dst := some 49, op := Op.move (Operand.tmp 1), type := 22, pos := "ref.go:146", after := #[{ on := 25, ground := Ground.guard }], guard := some (25, true) }) (v := undef) rfl (by kernel_rfl) (by kernel_rfl) (by kernel_rfl) (fun _ _ _ h => h) (Or.inr ⟨by kernel_rfl, rfl⟩) hHeld ?_
        try simp only [Act.put, List.setIfInBounds_toArray, List.set_cons_zero, List.set_cons_succ]
        refine wpAnyH_take (i := 28) (oi := { dst := some 50, op := Op.move (Operand.tmp 2), type := 3, pos := "ref.go:146", after := #[{ on := 25, ground := Ground.guard }], guard := some (25, true) }) (v := undef) rfl (by kernel_rfl) (by kernel_rfl) (by kernel_rfl) (fun _ _ _ h => h) (Or.inr ⟨by kernel_rfl, rfl⟩) hHeld ?_
        try simp only [Act.put, List.setIfInBounds_toArray, List.set_cons_zero, List.set_cons_succ]
        refine wpAnyH_take (i := 29) (oi := { dst := some 51, op := Op.move (Operand.tmp 3), type := 133, pos := "ref.go:146", after := #[{ on := 25, ground := Ground.guard }], guard := some (25, true) }) (v := undef) rfl (by kernel_rfl) (by kernel_rfl) (by kernel_rfl) (fun _ _ _ h => h) (Or.inr ⟨by kernel_rfl, rfl⟩) hHeld ?_
        try simp only [Act.put, List.setIfInBounds_toArray, List.set_cons_zero, List.set_cons_succ]
        refine wpAnyH_take (i := 30) (oi := { dst := some 52, op := Op.buildSlice 133 1 #[(0, Operand.const (Value.bool true))], type := 133, pos := "ref.go:146", after := #[{ on := 25, ground := Ground.guard }], guard := some (25, true) }) (v := undef) rfl (by kernel_rfl) (by kernel_rfl) (by kernel_rfl) (fun _ _ _ h => h) (Or.inr ⟨by kernel_rfl, rfl⟩) hHeld ?_
        try simp only [Act.put, List.setIfInBounds_toArray, List.set_cons_zero, List.set_cons_succ]
        refine wpAnyH_take (i := 31) (oi := { dst := some 53, op := Op.call { callee := Callee.builtin Builtin.append, args := #[Operand.tmp 51, Operand.tmp 52], argTypes := #[133, 133] }, type := 133, pos := "ref.go:146", after := #[{ on := 29, ground := Ground.data }, { on := 30, ground := Ground.data }, { on := 25, ground := Ground.chain }, { on := 25, ground := Ground.guard }], guard := some (25, true) }) (v := undef) rfl (by kernel_rfl) (by kernel_rfl) (by kernel_rfl) (fun _ _ _ h => h) (Or.inr ⟨by kernel_rfl, rfl⟩) hHeld ?_
        try simp only [Act.put, List.setIfInBounds_toArray, List.set_cons_zero, List.set_cons_succ]
        refine wpAnyH_take (i := 32) (oi := { dst := some 54, op := Op.call { callee := Callee.value (Operand.func 107), args := #[Operand.tmp 48, Operand.tmp 49, Operand.tmp 50, Operand.tmp 53], argTypes := #[63, 22, 3, 133] }, type := 4, pos := "ref.go:146", after := #[{ on := 26, ground := Ground.data }, { on := 27, ground := Ground.data }, { on := 28, ground := Ground.data }, { on := 31, ground := Ground.data }, { on := 31, ground := Ground.chain }, { on := 25, ground := Ground.guard }], guard := some (25, true) }) (v := undef) rfl (by kernel_rfl) (by kernel_rfl) (by kernel_rfl) (fun _ _ _ h => h) (Or.inr ⟨by kernel_rfl, rfl⟩) hHeld ?_
        try simp only [Act.put, List.setIfInBounds_toArray, List.set_cons_zero, List.set_cons_succ]
        refine wpAnyH_take (i := 33) (oi := { dst := some 55, op := Op.pick (Operand.tmp 47) (Operand.tmp 54) (Operand.const (Value.bool false)), type := 4, pos := "ref.go:146", after := #[{ on := 25, ground := Ground.data }, { on := 32, ground := Ground.data }, { on := 17, ground := Ground.guard }], guard := some (17, false) }) (v := undef) rfl (by kernel_rfl) (by kernel_rfl) (by kernel_rfl) (fun _ _ _ h => h) (Or.inr ⟨by kernel_rfl, rfl⟩) hHeld ?_
        try simp only [Act.put, List.setIfInBounds_toArray, List.set_cons_zero, List.set_cons_succ]
        refine wpAnyH_take (i := 34) (oi := { dst := some 56, op := Op.pick (Operand.tmp 39) (Operand.const (Value.bool true)) (Operand.tmp 55), type := 4, pos := "ref.go:146", after := #[{ on := 17, ground := Ground.data }, { on := 33, ground := Ground.data }], guard := none }) (v := ?_) rfl (by kernel_rfl) (by kernel_rfl) (by kernel_rfl) (fun _ _ _ h => h) (Or.inl ⟨by kernel_rfl, ?_⟩) hHeld ?_
        rotate_left
        · intro w hSw
          obtain ⟨hs0, hs1, hs2, hs3, hs4, hs5⟩ := SL.out w hSw
          clear hSw
          go_simp
          try with_reducible rfl
        try simp only [Act.put, List.setIfInBounds_toArray, List.set_cons_zero, List.set_cons_succ]
        refine wpAnyH_take (i := 35) (oi := { dst := some 8, op := Op.assign (Operand.tmp 56), type := 4, pos := "ref.go:146", after := #[{ on := 34, ground := Ground.data }, { on := 32, ground := Ground.chain }, { on := 0, ground := Ground.phase }, { on := 1, ground := Ground.phase }, { on := 2, ground := Ground.phase }, { on := 3, ground := Ground.phase }, { on := 4, ground := Ground.phase }, { on := 5, ground := Ground.phase }, { on := 6, ground := Ground.phase }, { on := 7, ground := Ground.phase }, { on := 8, ground := Ground.phase }, { on := 9, ground := Ground.phase }, { on := 10, ground := Ground.phase }, { on := 11, ground := Ground.phase }, { on := 12, ground := Ground.phase }, { on := 13, ground := Ground.phase }, { on := 14, ground := Ground.phase }, { on := 15, ground := Ground.phase }, { on := 16, ground := Ground.phase }, { on := 17, ground := Ground.phase }, { on := 18, ground := Ground.phase }, { on := 19, ground := Ground.phase }, { on := 20, ground := Ground.phase }, { on := 21, ground := Ground.phase }, { on := 22, ground := Ground.phase }, { on := 23, ground := Ground.phase }, { on := 24, ground := Ground.phase }, { on := 25, ground := Ground.phase }, { on := 26, ground := Ground.phase }, { on := 27, ground := Ground.phase }, { on := 28, ground := Ground.phase }, { on := 29, ground := Ground.phase }, { on := 30, ground := Ground.phase }, { on := 31, ground := Ground.phase }, { on := 32, ground := Ground.phase }, { on := 33, ground := Ground.phase }, { on := 34, ground := Ground.phase }], guard := none }) (v := ?_) rfl (by kernel_rfl) (by kernel_rfl) (by kernel_rfl) (fun _ _ _ h => h) (Or.inl ⟨by kernel_rfl, ?_⟩) hHeld ?_
        rotate_left
        · intro w hSw
          obtain ⟨hs0, hs1, hs2, hs3, hs4, hs5⟩ := SL.out w hSw
          clear hSw
          go_simp
          try with_reducible rfl
        try simp only [Act.put, List.setIfInBounds_toArray, List.set_cons_zero, List.set_cons_succ]
        refine wpAnyH_done (by kernel_rfl) ?_ _
        have HF := Lib.hid hHeld.low
        clear hHeld SL
        go_wp2
        go_ret
        exact ⟨by rw [HS.out]; rfl, HF.out⟩
      case false =>
        refine wpAnyH_take (i := 18) (oi := { dst := some 40, op := Op.move (Operand.tmp 1), type := 22, pos := "ref.go:146", after := #[{ on := 17, ground := Ground.guard }], guard := some (17, false) }) (v := ?_) rfl (by kernel_rfl) (by kernel_rfl) (by kernel_rfl) (fun _ _ _ h => h) (Or.inl ⟨by kernel_rfl, ?_⟩) hHeld ?_
        rotate_left
        · intro w hSw
          obtain ⟨hs0, hs1, hs2, hs3, hs4, hs5⟩ := SL.out w hSw
          clear hSw
          go_simp
          try with_reducible rfl
        try simp only [Act.put, List.setIfInBounds_toArray, List.set_cons_zero, List.set_cons_succ]
        refine wpAnyH_take (i := 19) (oi := { dst := some 41, op := Op.move (Operand.tmp 9), type := 3, pos := "ref.go:146", after := #[{ on := 17, ground := Ground.guard }], guard := some (17, false) }) (v := ?_) rfl (by kernel_rfl) (by kernel_rfl) (by kernel_rfl) (fun _ _ _ h => h) (Or.inl ⟨by kernel_rfl, ?_⟩) hHeld ?_
        rotate_left
        · intro w hSw
          obtain ⟨hs0, hs1, hs2, hs3, hs4, hs5⟩ := SL.out w hSw
          clear hSw
          go_simp
          try with_reducible rfl
        try simp only [Act.put, List.setIfInBounds_toArray, List.set_cons_zero, List.set_cons_succ]
        refine wpAnyH_take (i := 20) (oi := { dst := some 42, op := Op.indexAddr 22 (Operand.tmp 40) (Operand.tmp 41), type := 0, pos := "ref.go:146", after := #[{ on := 18, ground := Ground.data }, { on := 19, ground := Ground.data }, { on := 17, ground := Ground.guard }], guard := some (17, false) }) (v := ?_) rfl (by kernel_rfl) (by kernel_rfl) (by kernel_rfl) (fun _ _ _ h => h) (Or.inl ⟨by kernel_rfl, ?_⟩) hHeld ?_
        rotate_left
        · intro w hSw
          obtain ⟨hs0, hs1, hs2, hs3, hs4, hs5⟩ := SL.out w hSw
          clear hSw
          go_simp
          try with_reducible rfl
        try simp only [Act.put, List.setIfInBounds_toArray, List.set_cons_zero, List.set_cons_succ]
        refine wpAnyH_take (i := 21) (oi := { dst := some 43, op := Op.fieldAddr 67 (Operand.tmp 42) 1, type := 0, pos := "ref.go:146", after := #[{ on := 20, ground := Ground.data }, { on := 17, ground := Ground.guard }], guard := some (17, false) }) (v := ?_) rfl (by kernel_rfl) (by kernel_rfl) (by kernel_rfl) (fun _ _ _ h => h) (Or.inl ⟨by kernel_rfl, ?_⟩) hHeld ?_
        rotate_left
        · intro w hSw
          obtain ⟨hs0, hs1, hs2, hs3, hs4, hs5⟩ := SL.out w hSw
          clear hSw
          go_simp
          try with_reducible rfl
        try simp only [Act.put, List.setIfInBounds_toArray, List.set_cons_zero, List.set_cons_succ]
        refine wpAnyH_take (i := 22) (oi := { dst := some 44, op := Op.load 65 (Operand.tmp 43), type := 65, pos := "ref.go:146", after := #[{ on := 21, ground := Ground.data }, { on := 17, ground := Ground.guard }], guard := some (17, false) }) (v := ?_) rfl (by kernel_rfl) (by kernel_rfl) (by kernel_rfl) (fun _ _ _ h => h) (Or.inl ⟨by kernel_rfl, ?_⟩) hHeld ?_
        rotate_left
        · intro w hSw
          obtain ⟨hs0, hs1, hs2, hs3, hs4, hs5⟩ := SL.out w hSw
          clear hSw
          go_simp
          try with_reducible rfl
        try simp only [Act.put, List.setIfInBounds_toArray, List.set_cons_zero, List.set_cons_succ]
        refine wpAnyH_take (i := 23) (oi := { dst := some 45, op := Op.move (Operand.tmp 2), type := 3, pos := "ref.go:146", after := #[{ on := 17, ground := Ground.guard }], guard := some (17, false) }) (v := ?_) rfl (by kernel_rfl) (by kernel_rfl) (by kernel_rfl) (fun _ _ _ h => h) (Or.inl ⟨by kernel_rfl, ?_⟩) hHeld ?_
        rotate_left
        · intro w hSw
          obtain ⟨hs0, hs1, hs2, hs3, hs4, hs5⟩ := SL.out w hSw
          clear hSw
          go_simp
          try with_reducible rfl
        try simp only [Act.put, List.setIfInBounds_toArray, List.set_cons_zero, List.set_cons_succ]
        refine wpAnyH_ready (rs := [24]) (by kernel_rfl) (by simp) ?_
        refine AllReadyH.cons (o := { dst := some 46, op := Op.call { callee := Callee.value (Operand.func 43), args := #[Operand.tmp 44, Operand.tmp 45], argTypes := #[65, 3] }, type := 4, pos := "ref.go:146", after := #[{ on := 22, ground := Ground.data }, { on := 23, ground := Ground.data }, { on := 17, ground := Ground.chain }, { on := 17, ground := Ground.guard }], guard := some (17, false) }) rfl (fun K hK => ?_) AllReadyH.nil
        go_simp
        refine (has_any _ e _ hu2 he).mono ?_
        rintro e1 w' ⟨rfl, rfl⟩
        rw [HCA.out]
        go_wp2_with fail
        refine hK.out _ _ (hHeld) (fun hHeld => ?_)
        clear hK K
        try simp only [Act.put, List.setIfInBounds_toArray, List.set_cons_zero, List.set_cons_succ]
        refine wpAnyH_take (i := 25) (oi := { dst := some 47, op := Op.move (Operand.tmp 46), type := 4, pos := "ref.go:146", after := #[{ on := 24, ground := Ground.data }, { on := 24, ground := Ground.chain }, { on := 17, ground := Ground.guard }], guard := some (17, false) }) (v := ?_) rfl (by kernel_rfl) (by kernel_rfl) (by kernel_rfl) (fun _ _ _ h => h) (Or.inl ⟨by kernel_rfl, ?_⟩) hHeld ?_
        rotate_left
        · intro w hSw
          obtain ⟨hs0, hs1, hs2, hs3, hs4, hs5⟩ := SL.out w hSw
          clear hSw
          go_simp
          try with_reducible rfl
        try simp only [Act.put, List.setIfInBounds_toArray, List.set_cons_zero, List.set_cons_succ]
        cases c1
        case false =>
          refine wpAnyH_take (i := 26) (oi := { dst := some 48, op := Op.load 63 (Operand.tmp 4), type := 63, pos := "ref.go:146", after := #[{ on := 25, ground := Ground.guard }], guard := some (25, true) }) (v := undef) rfl (by kernel_rfl) (by kernel_rfl) (by kernel_rfl) (fun _ _ _ h => h) (Or.inr ⟨by kernel_rfl, rfl⟩) hHeld ?_
          try simp only [Act.put, List.setIfInBounds_toArray, List.set_cons_zero, List.set_cons_succ]
          refine wpAnyH_take (i := 27) (oi := { dst := some 49, op := Op.move (Operand.tmp 1), type := 22, pos := "ref.go:146", after := #[{ on := 25, ground := Ground.guard }], guard := some (25, true) }) (v := undef) rfl (by kernel_rfl) (by kernel_rfl) (by kernel_rfl) (fun _ _ _ h => h) (Or.inr ⟨by kernel_rfl, rfl⟩) hHeld ?_
          try simp only [Act.put, List.setIfInBounds_toArray, List.set_cons_zero, List.set_cons_succ]
          refine wpAnyH_take (i := 28) (oi := { dst := some 50, op := Op.move (Operand.tmp 2), type := 3, pos := "ref.go:146", after := #[{ on := 25, ground := Ground.guard }], guard := some (25, true) }) (v := undef) rfl (by kernel_rfl) (by kernel_rfl) (by kernel_rfl) (fun _ _ _ h => h) (Or.inr ⟨by kernel_rfl, rfl⟩) hHeld ?_
          try simp only [Act.put, List.setIfInBounds_toArray, List.set_cons_zero, List.set_cons_succ]
          refine wpAnyH_take (i := 29) (oi := { dst := some 51, op := Op.move (Operand.tmp 3), type := 133, pos := "ref.go:146", after := #[{ on := 25, ground := Ground.guard }], guard := some (25, true) }) (v := undef) rfl (by kernel_rfl) (by kernel_rfl) (by kernel_rfl) (fun _ _ _ h => h) (Or.inr ⟨by kernel_rfl, rfl⟩) hHeld ?_
          try simp only [Act.put, List.setIfInBounds_toArray, List.set_cons_zero, List.set_cons_succ]
          refine wpAnyH_take (i := 30) (oi := { dst := some 52, op := Op.buildSlice 133 1 #[(0, Operand.const (Value.bool true))], type := 133, pos := "ref.go:146", after := #[{ on := 25, ground := Ground.guard }], guard := some (25, true) }) (v := undef) rfl (by kernel_rfl) (by kernel_rfl) (by kernel_rfl) (fun _ _ _ h => h) (Or.inr ⟨by kernel_rfl, rfl⟩) hHeld ?_
          try simp only [Act.put, List.setIfInBounds_toArray, List.set_cons_zero, List.set_cons_succ]
          refine wpAnyH_take (i := 31) (oi := { dst := some 53, op := Op.call { callee := Callee.builtin Builtin.append, args := #[Operand.tmp 51, Operand.tmp 52], argTypes := #[133, 133] }, type := 133, pos := "ref.go:146", after := #[{ on := 29, ground := Ground.data }, { on := 30, ground := Ground.data }, { on := 25, ground := Ground.chain }, { on := 25, ground := Ground.guard }], guard := some (25, true) }) (v := undef) rfl (by kernel_rfl) (by kernel_rfl) (by kernel_rfl) (fun _ _ _ h => h) (Or.inr ⟨by kernel_rfl, rfl⟩) hHeld ?_
          try simp only [Act.put, List.setIfInBounds_toArray, List.set_cons_zero, List.set_cons_succ]
          refine wpAnyH_take (i := 32) (oi := { dst := some 54, op := Op.call { callee := Callee.value (Operand.func 107), args := #[Operand.tmp 48, Operand.tmp 49, Operand.tmp 50, Operand.tmp 53], argTypes := #[63, 22, 3, 133] }, type := 4, pos := "ref.go:146", after := #[{ on := 26, ground := Ground.data }, { on := 27, ground := Ground.data }, { on := 28, ground := Ground.data }, { on := 31, ground := Ground.data }, { on := 31, ground := Ground.chain }, { on := 25, ground := Ground.guard }], guard := some (25, true) }) (v := undef) rfl (by kernel_rfl) (by kernel_rfl) (by kernel_rfl) (fun _ _ _ h => h) (Or.inr ⟨by kernel_rfl, rfl⟩) hHeld ?_
          try simp only [Act.put, List.setIfInBounds_toArray, List.set_cons_zero, List.set_cons_succ]
          refine wpAnyH_take (i := 33) (oi := { dst := some 55, op := Op.pick (Operand.tmp 47) (Operand.tmp 54) (Operand.const (Value.bool false)), type := 4, pos := "ref.go:146", after := #[{ on := 25, ground := Ground.data }, { on := 32, ground := Ground.data }, { on := 17, ground := Ground.guard }], guard := some (17, false) }) (v := ?_) rfl (by kernel_rfl) (by kernel_rfl) (by kernel_rfl) (fun _ _ _ h => h) (Or.inl ⟨by kernel_rfl, ?_⟩) hHeld ?_
          rotate_left
          · intro w hSw
            obtain ⟨hs0, hs1, hs2, hs3, hs4, hs5⟩ := SL.out w hSw
            clear hSw
            go_simp
            try with_reducible rfl
          try simp only [Act.put, List.setIfInBounds_toArray, List.set_cons_zero, List.set_cons_succ]
          refine wpAnyH_take (i := 34) (oi := { dst := some 56, op := Op.pick (Operand.tmp 39) (Operand.const (Value.bool true)) (Operand.tmp 55), type := 4, pos := "ref.go:146", after := #[{ on := 17, ground := Ground.data }, { on := 33, ground := Ground.data }], guard := none }) (v := ?_) rfl (by kernel_rfl) (by kernel_rfl) (by kernel_rfl) (fun _ _ _ h => h) (Or.inl ⟨by kernel_rfl, ?_⟩) hHeld ?_
          rotate_left
          · intro w hSw
            obtain ⟨hs0, hs1, hs2, hs3, hs4, hs5⟩ := SL.out w hSw
            clear hSw
            go_simp
            try with_reducible rfl
          try simp only [Act.put, List.setIfInBounds_toArray, List.set_cons_zero, List.set_cons_succ]
          refine wpAnyH_take (i := 35) (oi := { dst := some 8, op := Op.assign (Operand.tmp 56), type := 4, pos := "ref.go:146", after := #[{ on := 34, ground := Ground.data }, { on := 32, ground := Ground.chain }, { on := 0, ground := Ground.phase }, { on := 1, ground := Ground.phase }, { on := 2, ground := Ground.phase }, { on := 3, ground := Ground.phase }, { on := 4, ground := Ground.phase }, { on := 5, ground := Ground.phase }, { on := 6, ground := Ground.phase }, { on := 7, ground := Ground.phase }, { on := 8, ground := Ground.phase }, { on := 9, ground := Ground.phase }, { on := 10, ground := Ground.phase }, { on := 11, ground := Ground.phase }, { on := 12, ground := Ground.phase }, { on := 13, ground := Ground.phase }, { on := 14, ground := Ground.phase }, { on := 15, ground := Ground.phase }, { on := 16, ground := Ground.phase }, { on := 17, ground := Ground.phase }, { on := 18, ground := Ground.phase }, { on := 19, ground := Ground.phase }, { on := 20, ground := Ground.phase }, { on := 21, ground := Ground.phase }, { on := 22, ground := Ground.phase }, { on := 23, ground := Ground.phase }, { on := 24, ground := Ground.phase }, { on := 25, ground := Ground.phase }, { on := 26, ground := Ground.phase }, { on := 27, ground := Ground.phase }, { on := 28, ground := Ground.phase }, { on := 29, ground := Ground.phase }, { on := 30, ground := Ground.phase }, { on := 31, ground := Ground.phase }, { on := 32, ground := Ground.phase }, { on := 33, ground := Ground.phase }, { on := 34, ground := Ground.phase }], guard := none }) (v := ?_) rfl (by kernel_rfl) (by kernel_rfl) (by kernel_rfl) (fun _ _ _ h => h) (Or.inl ⟨by kernel_rfl, ?_⟩) hHeld ?_
          rotate_left
          · intro w hSw
            obtain ⟨hs0, hs1, hs2, hs3, hs4, hs5⟩ := SL.out w hSw
            clear hSw
            go_simp
            try with_reducible rfl
          try simp only [Act.put, List.setIfInBounds_toArray, List.set_cons_zero, List.set_cons_succ]
          refine wpAnyH_done (by kernel_rfl) ?_ _
          have HF := Lib.hid hHeld.low
          clear hHeld SL
          go_wp2
          go_ret
          exact ⟨by rw [HS.out]; rfl, HF.out⟩
        case true =>
          refine wpAnyH_take (i := 26) (oi := { dst := some 48, op := Op.load 63 (Operand.tmp 4), type := 63, pos := "ref.go:146", after := #[{ on := 25, ground := Ground.guard }], guard := some (25, true) }) (v := ?_) rfl (by kernel_rfl) (by kernel_rfl) (by kernel_rfl) (fun _ _ _ h => h) (Or.inl ⟨by kernel_rfl, ?_⟩) hHeld ?_
          rotate_left
          · intro w hSw
            obtain ⟨hs0, hs1, hs2, hs3, hs4, hs5⟩ := SL.out w hSw
            clear hSw
            go_simp
            try with_reducible rfl
          try simp only [Act.put, List.setIfInBounds_toArray, List.set_cons_zero, List.set_cons_succ]
          refine wpAnyH_take (i := 27) (oi := { dst := some 49, op := Op.move (Operand.tmp 1), type := 22, pos := "ref.go:146", after := #[{ on := 25, ground := Ground.guard }], guard := some (25, true) }) (v := ?_) rfl (by kernel_rfl) (by kernel_rfl) (by kernel_rfl) (fun _ _ _ h => h) (Or.inl ⟨by kernel_rfl, ?_⟩) hHeld ?_
          rotate_left
          · intro w hSw
            obtain ⟨hs0, hs1, hs2, hs3, hs4, hs5⟩ := SL.out w hSw
            clear hSw
            go_simp
            try with_reducible rfl
          try simp only [Act.put, List.setIfInBounds_toArray, List.set_cons_zero, List.set_cons_succ]
          refine wpAnyH_take (i := 28) (oi := { dst := some 50, op := Op.move (Operand.tmp 2), type := 3, pos := "ref.go:146", after := #[{ on := 25, ground := Ground.guard }], guard := some (25, true) }) (v := ?_) rfl (by kernel_rfl) (by kernel_rfl) (by kernel_rfl) (fun _ _ _ h => h) (Or.inl ⟨by kernel_rfl, ?_⟩) hHeld ?_
          rotate_left
          · intro w hSw
            obtain ⟨hs0, hs1, hs2, hs3, hs4, hs5⟩ := SL.out w hSw
            clear hSw
            go_simp
            try with_reducible rfl
          try simp only [Act.put, List.setIfInBounds_toArray, List.set_cons_zero, List.set_cons_succ]
          refine wpAnyH_take (i := 29) (oi := { dst := some 51, op := Op.move (Operand.tmp 3), type := 133, pos := "ref.go:146", after := #[{ on := 25, ground := Ground.guard }], guard := some (25, true) }) (v := ?_) rfl (by kernel_rfl) (by kernel_rfl) (by kernel_rfl) (fun _ _ _ h => h) (Or.inl ⟨by kernel_rfl, ?_⟩) hHeld ?_
          rotate_left
          · intro w hSw
            obtain ⟨hs0, hs1, hs2, hs3, hs4, hs5⟩ := SL.out w hSw
            clear hSw
            go_simp
            try with_reducible rfl
          try simp only [Act.put, List.setIfInBounds_toArray, List.set_cons_zero, List.set_cons_succ]
          refine wpAnyH_ready (rs := [30]) (by kernel_rfl) (by simp) ?_
          refine AllReadyH.cons (o := { dst := some 52, op := Op.buildSlice 133 1 #[(0, Operand.const (Value.bool true))], type := 133, pos := "ref.go:146", after := #[{ on := 25, ground := Ground.guard }], guard := some (25, true) }) rfl (fun K hK => ?_) AllReadyH.nil
          go_simp
          refine hK.out _ _ (hHeld.below (Below.new1 _ _)) (fun hHeld => ?_)
          clear hK K
          try simp only [Act.put, List.setIfInBounds_toArray, List.set_cons_zero, List.set_cons_succ]
          refine wpAnyH_ready (rs := [31]) (by kernel_rfl) (by simp) ?_
          refine AllReadyH.cons (o := { dst := some 53, op := Op.call { callee := Callee.builtin Builtin.append, args := #[Operand.tmp 51, Operand.tmp 52], argTypes := #[133, 133] }, type := 133, pos := "ref.go:146", after := #[{ on := 29, ground := Ground.data }, { on := 30, ground := Ground.data }, { on := 25, ground := Ground.chain }, { on := 25, ground := Ground.guard }], guard := some (25, true) }) rfl (fun K hK => ?_) AllReadyH.nil
          rw [if_pos (by rfl)]
          obtain ⟨i0, hi, hz0, hz1, hz2⟩ := info_parts Tryd.info4
          refine wp_append_row _ _ 133 rfl (w.heap.size + 1) 4 i0 (.bool false) 1 1 Tryd.underlying133 hi hz0 hz1 hz2 rfl (by decide) (.slice x1a x.length x1c) x.length (boolsV x) rfl hHeld.own _ 1 (fun _ => .bool true) _ rfl (row_new1 _ _ _) [.bool true] rfl (one_get _) (one_one rfl) (by unfold maxLen; omega) (by omega) hHeld.size ?_
          intro x2 V3 hown2 hgrow2 hown1
          obtain ⟨xa2, xc2, rfl⟩ := own_form hown2
          have hs3 := hHeld.grown hown1 hgrow2
          have hbl := own_bls hown2 (by omega)
          have HBL := Lib.hid hbl
          clear hown2 hgrow2 hown1 hbl i0 hi hz0 hz1 hz2
          refine hK.out _ _ (hs3) (fun hHeld => ?_)
          clear hK K
          try simp only [Act.put, List.setIfInBounds_toArray, List.set_cons_zero, List.set_cons_succ]
          clear hs3
          refine wpAnyH_ready (rs := [32]) (by kernel_rfl) (by simp) ?_
          refine AllReadyH.cons (o := { dst := some 54, op := Op.call { callee := Callee.value (Operand.func 107), args := #[Operand.tmp 48, Operand.tmp 49, Operand.tmp 50, Operand.tmp 53], argTypes := #[63, 22, 3, 133] }, type := 4, pos := "ref.go:146", after := #[{ on := 26, ground := Ground.data }, { on := 27, ground := Ground.data }, { on := 28, ground := Ground.data }, { on := 31, ground := Ground.data }, { on := 31, ground := Ground.chain }, { on := 25, ground := Ground.guard }], guard := some (25, true) }) rfl (fun K hK => ?_) AllReadyH.nil
          go_simp
          refine (IH.out (x ++ [true]) _ _ _ _ (by have := HK.out; simp; omega) ((HBV.out.below hHeld.low hB).mono (Nat.le_trans hB hHeld.low.size)) HBL.out (Nat.le_refl _)).mono ?_
          rintro e1 V4 ⟨rfl, hb4⟩
          rw [HR2.out]
          go_wp2_with fail
          refine hK.out _ _ (hHeld.below hb4) (fun hHeld => ?_)
          clear hK K
          try simp only [Act.put, List.setIfInBounds_toArray, List.set_cons_zero, List.set_cons_succ]
          clear hb4 HBL
          refine wpAnyH_take (i := 33) (oi := { dst := some 55, op := Op.pick (Operand.tmp 47) (Operand.tmp 54) (Operand.const (Value.bool false)), type := 4, pos := "ref.go:146", after := #[{ on := 25, ground := Ground.data }, { on := 32, ground := Ground.data }, { on := 17, ground := Ground.guard }], guard := some (17, false) }) (v := ?_) rfl (by kernel_rfl) (by kernel_rfl) (by kernel_rfl) (fun _ _ _ h => h) (Or.inl ⟨by kernel_rfl, ?_⟩) hHeld ?_
          rotate_left
          · intro w hSw
            obtain ⟨hs0, hs1, hs2, hs3, hs4, hs5⟩ := SL.out w hSw
            clear hSw
            go_simp
            try with_reducible rfl
          try simp only [Act.put, List.setIfInBounds_toArray, List.set_cons_zero, List.set_cons_succ]
          refine wpAnyH_take (i := 34) (oi := { dst := some 56, op := Op.pick (Operand.tmp 39) (Operand.const (Value.bool true)) (Operand.tmp 55), type := 4, pos := "ref.go:146", after := #[{ on := 17, ground := Ground.data }, { on := 33, ground := Ground.data }], guard := none }) (v := ?_) rfl (by kernel_rfl) (by kernel_rfl) (by kernel_rfl) (fun _ _ _ h => h) (Or.inl ⟨by kernel_rfl, ?_⟩) hHeld ?_
          rotate_left
          · intro w hSw
            obtain ⟨hs0, hs1, hs2, hs3, hs4, hs5⟩ := SL.out w hSw
            clear hSw
            go_simp
            try with_reducible rfl
          try simp only [Act.put, List.setIfInBounds_toArray, List.set_cons_zero, List.set_cons_succ]
          refine wpAnyH_take (i := 35) (oi := { dst := some 8, op := Op.assign (Operand.tmp 56), type := 4, pos := "ref.go:146", after := #[{ on := 34, ground := Ground.data }, { on := 32, ground := Ground.chain }, { on := 0, ground := Ground.phase }, { on := 1, ground := Ground.phase }, { on := 2, ground := Ground.phase }, { on := 3, ground := Ground.phase }, { on := 4, ground := Ground.phase }, { on := 5, ground := Ground.phase }, { on := 6, ground := Ground.phase }, { on := 7, ground := Ground.phase }, { on := 8, ground := Ground.phase }, { on := 9, ground := Ground.phase }, { on := 10, ground := Ground.phase }, { on := 11, ground := Ground.phase }, { on := 12, ground := Ground.phase }, { on := 13, ground := Ground.phase }, { on := 14, ground := Ground.phase }, { on := 15, ground := Ground.phase }, { on := 16, ground := Ground.phase }, { on := 17, ground := Ground.phase }, { on := 18, ground := Ground.phase }, { on := 19, ground := Ground.phase }, { on := 20, ground := Ground.phase }, { on := 21, ground := Ground.phase }, { on := 22, ground := Ground.phase }, { on := 23, ground := Ground.phase }, { on := 24, ground := Ground.phase }, { on := 25, ground := Ground.phase }, { on := 26, ground := Ground.phase }, { on := 27, ground := Ground.phase }, { on := 28, ground := Ground.phase }, { on := 29, ground := Ground.phase }, { on := 30, ground := Ground.phase }, { on := 31, ground := Ground.phase }, { on := 32, ground := Ground.phase }, { on := 33, ground := Ground.phase }, { on := 34, ground := Ground.phase }], guard := none }) (v := ?_) rfl (by kernel_rfl) (by kernel_rfl) (by kernel_rfl) (fun _ _ _ h => h) (Or.inl ⟨by kernel_rfl, ?_⟩) hHeld ?_
          rotate_left
          · intro w hSw
            obtain ⟨hs0, hs1, hs2, hs3, hs4, hs5⟩ := SL.out w hSw
            clear hSw
            go_simp
            try with_reducible rfl
          try simp only [Act.put, List.setIfInBounds_toArray, List.set_cons_zero, List.set_cons_succ]
          refine wpAnyH_done (by kernel_rfl) ?_ _
          have HF := Lib.hid hHeld.low
          clear hHeld SL
          go_wp2
          go_ret
          exact ⟨by rw [HS.out]; rfl, HF.out⟩
    case true =>
      refine wpAnyH_take (i := 7) (oi := { dst := some 29, op := Op.unOp UnOp.not 4 (Operand.tmp 28), type := 4, pos := "ref.go:146", after := #[{ on := 6, ground := Ground.data }], guard := none }) (v := ?_) rfl (by kernel_rfl) (by kernel_rfl) (by kernel_rfl) (fun _ _ _ h => h) (Or.inl ⟨by kernel_rfl, ?_⟩) hHeld ?_
      rotate_left
      · intro w hSw
        obtain ⟨hs0, hs1, hs2, hs3, hs4, hs5⟩ := SL.out w hSw
        clear hSw
        go_simp
        try with_reducible rfl
      try simp only [Act.put, List.setIfInBounds_toArray, List.set_cons_zero, List.set_cons_succ]
      refine wpAnyH_take (i := 8) (oi := { dst := some 30, op := Op.move (Operand.tmp 29), type := 4, pos := "ref.go:146", after := #[{ on := 7, ground := Ground.data }, { on := 6, ground := Ground.chain }], guard := none }) (v := ?_) rfl (by kernel_rfl) (by kernel_rfl) (by kernel_rfl) (fun _ _ _ h => h) (Or.inl ⟨by kernel_rfl, ?_⟩) hHeld ?_
      rotate_left
      · intro w hSw
        obtain ⟨hs0, hs1, hs2, hs3, hs4, hs5⟩ := SL.out w hSw
        clear hSw
        go_simp
        try with_reducible rfl
      try simp only [Act.put, List.setIfInBounds_toArray, List.set_cons_zero, List.set_cons_succ]
      refine wpAnyH_take (i := 9) (oi := { dst := some 31, op := Op.load 63 (Operand.tmp 4), type := 63, pos := "ref.go:146", after := #[{ on := 8, ground := Ground.guard }], guard := some (8, true) }) (v := undef) rfl (by kernel_rfl) (by kernel_rfl) (by kernel_rfl) (fun _ _ _ h => h) (Or.inr ⟨by kernel_rfl, rfl⟩) hHeld ?_
      try simp only [Act.put, List.setIfInBounds_toArray, List.set_cons_zero, List.set_cons_succ]
      refine wpAnyH_take (i := 10) (oi := { dst := some 32, op := Op.move (Operand.tmp 1), type := 22, pos := "ref.go:146", after := #[{ on := 8, ground := Ground.guard }], guard := some (8, true) }) (v := undef) rfl (by kernel_rfl) (by kernel_rfl) (by kernel_rfl) (fun _ _ _ h => h) (Or.inr ⟨by kernel_rfl, rfl⟩) hHeld ?_
      try simp only [Act.put, List.setIfInBounds_toArray, List.set_cons_zero, List.set_cons_succ]
      refine wpAnyH_take (i := 11) (oi := { dst := some 33, op := Op.move (Operand.tmp 2), type := 3, pos := "ref.go:146", after := #[{ on := 8, ground := Ground.guard }], guard := some (8, true) }) (v := undef) rfl (by kernel_rfl) (by kernel_rfl) (by kernel_rfl) (fun _ _ _ h => h) (Or.inr ⟨by kernel_rfl, rfl⟩) hHeld ?_
      try simp only [Act.put, List.setIfInBounds_toArray, List.set_cons_zero, List.set_cons_succ]
      refine wpAnyH_take (i := 12) (oi := { dst := some 34, op := Op.move (Operand.tmp 3), type := 133, pos := "ref.go:146", after := #[{ on := 8, ground := Ground.guard }], guard := some (8, true) }) (v := undef) rfl (by kernel_rfl) (by kernel_rfl) (by kernel_rfl) (fun _ _ _ h => h) (Or.inr ⟨by kernel_rfl, rfl⟩) hHeld ?_
      try simp only [Act.put, List.setIfInBounds_toArray, List.set_cons_zero, List.set_cons_succ]
      refine wpAnyH_take (i := 13) (oi := { dst := some 35, op := Op.buildSlice 133 1 #[(0, Operand.const (Value.bool false))], type := 133, pos := "ref.go:146", after := #[{ on := 8, ground := Ground.guard }], guard := some (8, true) }) (v := undef) rfl (by kernel_rfl) (by kernel_rfl) (by kernel_rfl) (fun _ _ _ h => h) (Or.inr ⟨by kernel_rfl, rfl⟩) hHeld ?_
      try simp only [Act.put, List.setIfInBounds_toArray, List.set_cons_zero, List.set_cons_succ]
      refine wpAnyH_take (i := 14) (oi := { dst := some 36, op := Op.call { callee := Callee.builtin Builtin.append, args := #[Operand.tmp 34, Operand.tmp 35], argTypes := #[133, 133] }, type := 133, pos := "ref.go:146", after := #[{ on := 12, ground := Ground.data }, { on := 13, ground := Ground.data }, { on := 8, ground := Ground.chain }, { on := 8, ground := Ground.guard }], guard := some (8, true) }) (v := undef) rfl (by kernel_rfl) (by kernel_rfl) (by kernel_rfl) (fun _ _ _ h => h) (Or.inr ⟨by kernel_rfl, rfl⟩) hHeld ?_
      try simp only [Act.put, List.setIfInBounds_toArray, List.set_cons_zero, List.set_cons_succ]
      refine wpAnyH_take (i := 15) (oi := { dst := some 37, op := Op.call { callee := Callee.value (Operand.func 107), args := #[Operand.tmp 31, Operand.tmp 32, Operand.tmp 33, Operand.tmp 36], argTypes := #[63, 22, 3, 133] }, type := 4, pos := "ref.go:146", after := #[{ on := 9, ground := Ground.data }, { on := 10, ground := Ground.data }, { on := 11, ground := Ground.data }, { on := 14, ground := Ground.data }, { on := 14, ground := Ground.chain }, { on := 8, ground := Ground.guard }], guard := some (8, true) }) (v := undef) rfl (by kernel_rfl) (by kernel_rfl) (by kernel_rfl) (fun _ _ _ h => h) (Or.inr ⟨by kernel_rfl, rfl⟩) hHeld ?_
      try simp only [Act.put, List.setIfInBounds_toArray, List.set_cons_zero, List.set_cons_succ]
      refine wpAnyH_take (i := 16) (oi := { dst := some 38, op := Op.pick (Operand.tmp 30) (Operand.tmp 37) (Operand.const (Value.bool false)), type := 4, pos := "ref.go:146", after := #[{ on := 8, ground := Ground.data }, { on := 15, ground := Ground.data }], guard := none }) (v := ?_) rfl (by kernel_rfl) (by kernel_rfl) (by kernel_rfl) (fun _ _ _ h => h) (Or.inl ⟨by kernel_rfl, ?_⟩) hHeld ?_
      rotate_left
      · intro w hSw
        obtain ⟨hs0, hs1, hs2, hs3, hs4, hs5⟩ := SL.out w hSw
        clear hSw
        go_simp
        try with_reducible rfl
      try simp only [Act.put, List.setIfInBounds_toArray, List.set_cons_zero, List.set_cons_succ]
      refine wpAnyH_take (i := 17) (oi := { dst := some 39, op := Op.move (Operand.tmp 38), type := 4, pos := "ref.go:146", after := #[{ on := 16, ground := Ground.data }, { on := 15, ground := Ground.chain }], guard := none }) (v := ?_) rfl (by kernel_rfl) (by kernel_rfl) (by kernel_rfl) (fun _ _ _ h => h) (Or.inl ⟨by kernel_rfl, ?_⟩) hHeld ?_
      rotate_left
      · intro w hSw
        obtain ⟨hs0, hs1, hs2, hs3, hs4, hs5⟩ := SL.out w hSw
        clear hSw
        go_simp
        try with_reducible rfl
      try simp only [Act.put, List.setIfInBounds_toArray, List.set_cons_zero, List.set_cons_succ]
      refine wpAnyH_take (i := 18) (oi := { dst := some 40, op := Op.move (Operand.tmp 1), type := 22, pos := "ref.go:146", after := #[{ on := 17, ground := Ground.guard }], guard := some (17, false) }) (v := ?_) rfl (by kernel_rfl) (by kernel_rfl) (by kernel_rfl) (fun _ _ _ h => h) (Or.inl ⟨by kernel_rfl, ?_⟩) hHeld ?_
      rotate_left
      · intro w hSw
        obtain ⟨hs0, hs1, hs2, hs3, hs4, hs5⟩ := SL.out w hSw
        clear hSw
        go_simp
        try with_reducible rfl
      try simp only [Act.put, List.setIfInBounds_toArray, List.set_cons_zero, List.set_cons_succ]
      refine wpAnyH_take (i := 19) (oi := { dst := some 41, op := Op.move (Operand.tmp 9), type := 3, pos := "ref.go:146", after := #[{ on := 17, ground := Ground.guard }], guard := some (17, false) }) (v := ?_) rfl (by kernel_rfl) (by kernel_rfl) (by kernel_rfl) (fun _ _ _ h => h) (Or.inl ⟨by kernel_rfl, ?_⟩) hHeld ?_
      rotate_left
      · intro w hSw
        obtain ⟨hs0, hs1, hs2, hs3, hs4, hs5⟩ := SL.out w hSw
        clear hSw
        go_simp
        try with_reducible rfl
      try simp only [Act.put, List.setIfInBounds_toArray, List.set_cons_zero, List.set_cons_succ]
      refine wpAnyH_take (i := 20) (oi := { dst := some 42, op := Op.indexAddr 22 (Operand.tmp 40) (Operand.tmp 41), type := 0, pos := "ref.go:146", after := #[{ on := 18, ground := Ground.data }, { on := 19, ground := Ground.data }, { on := 17, ground := Ground.guard }], guard := some (17, false) }) (v := ?_) rfl (by kernel_rfl) (by kernel_rfl) (by kernel_rfl) (fun _ _ _ h => h) (Or.inl ⟨by kernel_rfl, ?_⟩) hHeld ?_
      rotate_left
      · intro w hSw
        obtain ⟨hs0, hs1, hs2, hs3, hs4, hs5⟩ := SL.out w hSw
        clear hSw
        go_simp
        try with_reducible rfl
      try simp only [Act.put, List.setIfInBounds_toArray, List.set_cons_zero, List.set_cons_succ]
      refine wpAnyH_take (i := 21) (oi := { dst := some 43, op := Op.fieldAddr 67 (Operand.tmp 42) 1, type := 0, pos := "ref.go:146", after := #[{ on := 20, ground := Ground.data }, { on := 17, ground := Ground.guard }], guard := some (17, false) }) (v := ?_) rfl (by kernel_rfl) (by kernel_rfl) (by kernel_rfl) (fun _ _ _ h => h) (Or.inl ⟨by kernel_rfl, ?_⟩) hHeld ?_
      rotate_left
      · intro w hSw
        obtain ⟨hs0, hs1, hs2, hs3, hs4, hs5⟩ := SL.out w hSw
        clear hSw
        go_simp
        try with_reducible rfl
      try simp only [Act.put, List.setIfInBounds_toArray, List.set_cons_zero, List.set_cons_succ]
      refine wpAnyH_take (i := 22) (oi := { dst := some 44, op := Op.load 65 (Operand.tmp 43), type := 65, pos := "ref.go:146", after := #[{ on := 21, ground := Ground.data }, { on := 17, ground := Ground.guard }], guard := some (17, false) }) (v := ?_) rfl (by kernel_rfl) (by kernel_rfl) (by kernel_rfl) (fun _ _ _ h => h) (Or.inl ⟨by kernel_rfl, ?_⟩) hHeld ?_
      rotate_left
      · intro w hSw
        obtain ⟨hs0, hs1, hs2, hs3, hs4, hs5⟩ := SL.out w hSw
        clear hSw
        go_simp
        try with_reducible rfl
      try simp only [Act.put, List.setIfInBounds_toArray, List.set_cons_zero, List.set_cons_succ]
      refine wpAnyH_take (i := 23) (oi := { dst := some 45, op := Op.move (Operand.tmp 2), type := 3, pos := "ref.go:146", after := #[{ on := 17, ground := Ground.guard }], guard := some (17, false) }) (v := ?_) rfl (by kernel_rfl) (by kernel_rfl) (by kernel_rfl) (fun _ _ _ h => h) (Or.inl ⟨by kernel_rfl, ?_⟩) hHeld ?_
      rotate_left
      · intro w hSw
        obtain ⟨hs0, hs1, hs2, hs3, hs4, hs5⟩ := SL.out w hSw
        clear hSw
        go_simp
        try with_reducible rfl
      try simp only [Act.put, List.setIfInBounds_toArray, List.set_cons_zero, List.set_cons_succ]
      refine wpAnyH_ready (rs := [24]) (by kernel_rfl) (by simp) ?_
      refine AllReadyH.cons (o := { dst := some 46, op := Op.call { callee := Callee.value (Operand.func 43), args := #[Operand.tmp 44, Operand.tmp 45], argTypes := #[65, 3] }, type := 4, pos := "ref.go:146", after := #[{ on := 22, ground := Ground.data }, { on := 23, ground := Ground.data }, { on := 17, ground := Ground.chain }, { on := 17, ground := Ground.guard }], guard := some (17, false) }) rfl (fun K hK => ?_) AllReadyH.nil
      go_simp
      refine (has_any _ e _ hu2 he).mono ?_
      rintro e1 w' ⟨rfl, rfl⟩
      rw [HCA.out]
      go_wp2_with fail
      refine hK.out _ _ (hHeld) (fun hHeld => ?_)
      clear hK K
      try simp only [Act.put, List.setIfInBounds_toArray, List.set_cons_zero, List.set_cons_succ]
      refine wpAnyH_take (i := 25) (oi := { dst := some 47, op := Op.move (Operand.tmp 46), type := 4, pos := "ref.go:146", after := #[{ on := 24, ground := Ground.data }, { on := 24, ground := Ground.chain }, { on := 17, ground := Ground.guard }], guard := some (17, false) }) (v := ?_) rfl (by kernel_rfl) (by kernel_rfl) (by kernel_rfl) (fun _ _ _ h => h) (Or.inl ⟨by kernel_rfl, ?_⟩) hHeld ?_
      rotate_left
      · intro w hSw
        obtain ⟨hs0, hs1, hs2, hs3, hs4, hs5⟩ := SL.out w hSw
        clear hSw
        go_simp
        try with_reducible rfl
      try simp only [Act.put, List.setIfInBounds_toArray, List.set_cons_zero, List.set_cons_succ]
      cases c1
      case false =>
        refine wpAnyH_take (i := 26) (oi := { dst := some 48, op := Op.load 63 (Operand.tmp 4), type := 63, pos := "ref.go:146", after := #[{ on := 25, ground := Ground.guard }], guard := some (25, true) }) (v := undef) rfl (by kernel_rfl) (by kernel_rfl) (by kernel_rfl) (fun _ _ _ h => h) (Or.inr ⟨by kernel_rfl, rfl⟩) hHeld ?_
        try simp only [Act.put, List.setIfInBounds_toArray, List.set_cons_zero, List.set_cons_succ]
        refine wpAnyH_take (i := 27) (oi := { dst := some 49, op := Op.move (Operand.tmp 1), type := 22, pos := "ref.go:146", after := #[{ on := 25, ground := Ground.guard }], guard := some (25, true) }) (v := undef) rfl (by kernel_rfl) (by kernel_rfl) (by kernel_rfl) (fun _ _ _ h => h) (Or.inr ⟨by kernel_rfl, rfl⟩) hHeld ?_
        try simp only [Act.put, List.setIfInBounds_toArray, List.set_cons_zero, List.set_cons_succ]
        refine wpAnyH_take (i := 28) (oi := { dst := some 50, op := Op.move (Operand.tmp 2), type := 3, pos := "ref.go:146", after := #[{ on := 25, ground := Ground.guard }], guard := some (25, true) }) (v := undef) rfl (by kernel_rfl) (by kernel_rfl) (by kernel_rfl) (fun _ _ _ h => h) (Or.inr ⟨by kernel_rfl, rfl⟩) hHeld ?_
        try simp only [Act.put, List.setIfInBounds_toArray, List.set_cons_zero, List.set_cons_succ]
        refine wpAnyH_take (i := 29) (oi := { dst := some 51, op := Op.move (Operand.tmp 3), type := 133, pos := "ref.go:146", after := #[{ on := 25, ground := Ground.guard }], guard := some (25, true) }) (v := undef) rfl (by kernel_rfl) (by kernel_rfl) (by kernel_rfl) (fun _ _ _ h => h) (Or.inr ⟨by kernel_rfl, rfl⟩) hHeld ?_
        try simp only [Act.put, List.setIfInBounds_toArray, List.set_cons_zero, List.set_cons_succ]
        refine wpAnyH_take (i := 30) (oi := { dst := some 52, op := Op.buildSlice 133 1 #[(0, Operand.const (Value.bool true))], type := 133, pos := "ref.go:146", after := #[{ on := 25, ground := Ground.guard }], guard := some (25, true) }) (v := undef) rfl (by kernel_rfl) (by kernel_rfl) (by kernel_rfl) (fun _ _ _ h => h) (Or.inr ⟨by kernel_rfl, rfl⟩) hHeld ?_
        try simp only [Act.put, List.setIfInBounds_toArray, List.set_cons_zero, List.set_cons_succ]
        refine wpAnyH_take (i := 31) (oi := { dst := some 53, op := Op.call { callee := Callee.builtin Builtin.append, args := #[Operand.tmp 51, Operand.tmp 52], argTypes := #[133, 133] }, type := 133, pos := "ref.go:146", after := #[{ on := 29, ground := Ground.data }, { on := 30, ground := Ground.data }, { on := 25, ground := Ground.chain }, { on := 25, ground := Ground.guard }], guard := some (25, true) }) (v := undef) rfl (by kernel_rfl) (by kernel_rfl) (by kernel_rfl) (fun _ _ _ h => h) (Or.inr ⟨by kernel_rfl, rfl⟩) hHeld ?_
        try simp only [Act.put, List.setIfInBounds_toArray, List.set_cons_zero, List.set_cons_succ]
        refine wpAnyH_take (i := 32) (oi := { dst := some 54, op := Op.call { callee := Callee.value (Operand.func 107), args := #[Operand.tmp 48, Operand.tmp 49, Operand.tmp 50, Operand.tmp 53], argTypes := #[63, 22, 3, 133] }, type := 4, pos := "ref.go:146", after := #[{ on := 26, ground := Ground.data }, { on := 27, ground := Ground.data }, { on := 28, ground := Ground.data }, { on := 31, ground := Ground.data }, { on := 31, ground := Ground.chain }, { on := 25, ground := Ground.guard }], guard := some (25, true) }) (v := undef) rfl (by kernel_rfl) (by kernel_rfl) (by kernel_rfl) (fun _ _ _ h => h) (Or.inr ⟨by kernel_rfl, rfl⟩) hHeld ?_
        try simp only [Act.put, List.setIfInBounds_toArray, List.set_cons_zero, List.set_cons_succ]
        refine wpAnyH_take (i := 33) (oi := { dst := some 55, op := Op.pick (Operand.tmp 47) (Operand.tmp 54) (Operand.const (Value.bool false)), type := 4, pos := "ref.go:146", after := #[{ on := 25, ground := Ground.data }, { on := 32, ground := Ground.data }, { on := 17, ground := Ground.guard }], guard := some (17, false) }) (v := ?_) rfl (by kernel_rfl) (by kernel_rfl) (by kernel_rfl) (fun _ _ _ h => h) (Or.inl ⟨by kernel_rfl, ?_⟩) hHeld ?_
        rotate_left
        · intro w hSw
          obtain ⟨hs0, hs1, hs2, hs3, hs4, hs5⟩ := SL.out w hSw
          clear hSw
          go_simp
          try with_reducible rfl
        try simp only [Act.put, List.setIfInBounds_toArray, List.set_cons_zero, List.set_cons_succ]
        refine wpAnyH_take (i := 34) (oi := { dst := some 56, op := Op.pick (Operand.tmp 39) (Operand.const (Value.bool true)) (Operand.tmp 55), type := 4, pos := "ref.go:146", after := #[{ on := 17, ground := Ground.data }, { on := 33, ground := Ground.data }], guard := none }) (v := ?_) rfl (by kernel_rfl) (by kernel_rfl) (by kernel_rfl) (fun _ _ _ h => h) (Or.inl ⟨by kernel_rfl, ?_⟩) hHeld ?_
        rotate_left
        · intro w hSw
          obtain ⟨hs0, hs1, hs2, hs3, hs4, hs5⟩ := SL.out w hSw
          clear hSw
          go_simp
          try with_reducible rfl
        try simp only [Act.put, List.setIfInBounds_toArray, List.set_cons_zero, List.set_cons_succ]
        refine wpAnyH_take (i := 35) (oi := { dst := some 8, op := Op.assign (Operand.tmp 56), type := 4, pos := "ref.go:146", after := #[{ on := 34, ground := Ground.data }, { on := 32, ground := Ground.chain }, { on := 0, ground := Ground.phase }, { on := 1, ground := Ground.phase }, { on := 2, ground := Ground.phase }, { on := 3, ground := Ground.phase }, { on := 4, ground := Ground.phase }, { on := 5, ground := Ground.phase }, { on := 6, ground := Ground.phase }, { on := 7, ground := Ground.phase }, { on := 8, ground := Ground.phase }, { on := 9, ground := Ground.phase }, { on := 10, ground := Ground.phase }, { on := 11, ground := Ground.phase }, { on := 12, ground := Ground.phase }, { on := 13, ground := Ground.phase }, { on := 14, ground := Ground.phase }, { on := 15, ground := Ground.phase }, { on := 16, ground := Ground.phase }, { on := 17, ground := Ground.phase }, { on := 18, ground := Ground.phase }, { on := 19, ground := Ground.phase }, { on := 20, ground := Ground.phase }, { on := 21, ground := Ground.phase }, { on := 22, ground := Ground.phase }, { on := 23, ground := Ground.phase }, { on := 24, ground := Ground.phase }, { on := 25, ground := Ground.phase }, { on := 26, ground := Ground.phase }, { on := 27, ground := Ground.phase }, { on := 28, ground := Ground.phase }, { on := 29, ground := Ground.phase }, { on := 30, ground := Ground.phase }, { on := 31, ground := Ground.phase }, { on := 32, ground := Ground.phase }, { on := 33, ground := Ground.phase }, { on := 34, ground := Ground.phase }], guard := none }) (v := ?_) rfl (by kernel_rfl) (by kernel_rfl) (by kernel_rfl) (fun _ _ _ h => h) (Or.inl ⟨by kernel_rfl, ?_⟩) hHeld ?_
        rotate_left
        · intro w hSw
          obtain ⟨hs0, hs1, hs2, hs3, hs4, hs5⟩ := SL.out w hSw
          clear hSw
          go_simp
          try with_reducible rfl
        try simp only [Act.put, List.setIfInBounds_toArray, List.set_cons_zero, List.set_cons_succ]
        refine wpAnyH_done (by kernel_rfl) ?_ _
        have HF := Lib.hid hHeld.low
        clear hHeld SL
        go_wp2
        go_ret
        exact ⟨by rw [HS.out]; rfl, HF.out⟩
      case true =>
        refine wpAnyH_take (i := 26) (oi := { dst := some 48, op := Op.load 63 (Operand.tmp 4), type := 63, pos := "ref.go:146", after := #[{ on := 25, ground := Ground.guard }], guard := some (25, true) }) (v := ?_) rfl (by kernel_rfl) (by kernel_rfl) (by kernel_rfl) (fun _ _ _ h => h) (Or.inl ⟨by kernel_rfl, ?_⟩) hHeld ?_
        rotate_left
        · intro w hSw
          obtain ⟨hs0, hs1, hs2, hs3, hs4, hs5⟩ := SL.out w hSw
          clear hSw
          go_simp
          try with_reducible rfl
        try simp only [Act.put, List.setIfInBounds_toArray, List.set_cons_zero, List.set_cons_succ]
        refine wpAnyH_take (i := 27) (oi := { dst := some 49, op := Op.move (Operand.tmp 1), type := 22, pos := "ref.go:146", after := #[{ on := 25, ground := Ground.guard }], guard := some (25, true) }) (v := ?_) rfl (by kernel_rfl) (by kernel_rfl) (by kernel_rfl) (fun _ _ _ h => h) (Or.inl ⟨by kernel_rfl, ?_⟩) hHeld ?_
        rotate_left
        · intro w hSw
          obtain ⟨hs0, hs1, hs2, hs3, hs4, hs5⟩ := SL.out w hSw
          clear hSw
          go_simp
          try with_reducible rfl
        try simp only [Act.put, List.setIfInBounds_toArray, List.set_cons_zero, List.set_cons_succ]
        refine wpAnyH_take (i := 28) (oi := { dst := some 50, op := Op.move (Operand.tmp 2), type := 3, pos := "ref.go:146", after := #[{ on := 25, ground := Ground.guard }], guard := some (25, true) }) (v := ?_) rfl (by kernel_rfl) (by kernel_rfl) (by kernel_rfl) (fun _ _ _ h => h) (Or.inl ⟨by kernel_rfl, ?_⟩) hHeld ?_
        rotate_left
        · intro w hSw
          obtain ⟨hs0, hs1, hs2, hs3, hs4, hs5⟩ := SL.out w hSw
          clear hSw
          go_simp
          try with_reducible rfl
        try simp only [Act.put, List.setIfInBounds_toArray, List.set_cons_zero, List.set_cons_succ]
        refine wpAnyH_take (i := 29) (oi := { dst := some 51, op := Op.move (Operand.tmp 3), type := 133, pos := "ref.go:146", after := #[{ on := 25, ground := Ground.guard }], guard := some (25, true) }) (v := ?_) rfl (by kernel_rfl) (by kernel_rfl) (by kernel_rfl) (fun _ _ _ h => h) (Or.inl ⟨by kernel_rfl, ?_⟩) hHeld ?_
        rotate_left
        · intro w hSw
          obtain ⟨hs0, hs1, hs2, hs3, hs4, hs5⟩ := SL.out w hSw
          clear hSw
          go_simp
          try with_reducible rfl
        try simp only [Act.put, List.setIfInBounds_toArray, List.set_cons_zero, List.set_cons_succ]
        refine wpAnyH_ready (rs := [30]) (by kernel_rfl) (by simp) ?_
        refine AllReadyH.cons (o := { dst := some 52, op := Op.buildSlice 133 1 #[(0, Operand.const (Value.bool true))], type := 133, pos := "ref.go:146", after := #[{ on := 25, ground := Ground.guard }], guard := some (25, true) }) rfl (fun K hK => ?_) AllReadyH.nil
        go_simp
        refine hK.out _ _ (hHeld.below (Below.new1 _ _)) (fun hHeld => ?_)
        clear hK K
        try simp only [Act.put, List.setIfInBounds_toArray, List.set_cons_zero, List.set_cons_succ]
        refine wpAnyH_ready (rs := [31]) (by kernel_rfl) (by simp) ?_
        refine AllReadyH.cons (o := { dst := some 53, op := Op.call { callee := Callee.builtin Builtin.append, args := #[Operand.tmp 51, Operand.tmp 52], argTypes := #[133, 133] }, type := 133, pos := "ref.go:146", after := #[{ on := 29, ground := Ground.data }, { on := 30, ground := Ground.data }, { on := 25, ground := Ground.chain }, { on := 25, ground := Ground.guard }], guard := some (25, true) }) rfl (fun K hK => ?_) AllReadyH.nil
        rw [if_pos (by rfl)]
        obtain ⟨i0, hi, hz0, hz1, hz2⟩ := info_parts Tryd.info4
        refine wp_append_row _ _ 133 rfl (w.heap.size + 1) 4 i0 (.bool false) 1 1 Tryd.underlying133 hi hz0 hz1 hz2 rfl (by decide) (.slice x1a x.length x1c) x.length (boolsV x) rfl hHeld.own _ 1 (fun _ => .bool true) _ rfl (row_new1 _ _ _) [.bool true] rfl (one_get _) (one_one rfl) (by unfold maxLen; omega) (by omega) hHeld.size ?_
        intro x2 V3 hown2 hgrow2 hown1
        obtain ⟨xa2, xc2, rfl⟩ := own_form hown2
        have hs3 := hHeld.grown hown1 hgrow2
        have hbl := own_bls hown2 (by omega)
        have HBL := Lib.hid hbl
        clear hown2 hgrow2 hown1 hbl i0 hi hz0 hz1 hz2
        refine hK.out _ _ (hs3) (fun hHeld => ?_)
        clear hK K
        try simp only [Act.put, List.setIfInBounds_toArray, List.set_cons_zero, List.set_cons_succ]
        clear hs3
        refine wpAnyH_ready (rs := [32]) (by kernel_rfl) (by simp) ?_
        refine AllReadyH.cons (o := { dst := some 54, op := Op.call { callee := Callee.value (Operand.func 107), args := #[Operand.tmp 48, Operand.tmp 49, Operand.tmp 50, Operand.tmp 53], argTypes := #[63, 22, 3, 133] }, type := 4, pos := "ref.go:146", after := #[{ on := 26, ground := Ground.data }, { on := 27, ground := Ground.data }, { on := 28, ground := Ground.data }, { on := 31, ground := Ground.data }, { on := 31, ground := Ground.chain }, { on := 25, ground := Ground.guard }], guard := some (25, true) }) rfl (fun K hK => ?_) AllReadyH.nil
        go_simp
        refine (IH.out (x ++ [true]) _ _ _ _ (by have := HK.out; simp; omega) ((HBV.out.below hHeld.low hB).mono (Nat.le_trans hB hHeld.low.size)) HBL.out (Nat.le_refl _)).mono ?_
        rintro e1 V4 ⟨rfl, hb4⟩
        rw [HR2.out]
        go_wp2_with fail
        refine hK.out _ _ (hHeld.below hb4) (fun hHeld => ?_)
        clear hK K
        try simp only [Act.put, List.setIfInBounds_toArray, List.set_cons_zero, List.set_cons_succ]
        clear hb4 HBL
        refine wpAnyH_take (i := 33) (oi := { dst := some 55, op := Op.pick (Operand.tmp 47) (Operand.tmp 54) (Operand.const (Value.bool false)), type := 4, pos := "ref.go:146", after := #[{ on := 25, ground := Ground.data }, { on := 32, ground := Ground.data }, { on := 17, ground := Ground.guard }], guard := some (17, false) }) (v := ?_) rfl (by kernel_rfl) (by kernel_rfl) (by kernel_rfl) (fun _ _ _ h => h) (Or.inl ⟨by kernel_rfl, ?_⟩) hHeld ?_
        rotate_left
        · intro w hSw
          obtain ⟨hs0, hs1, hs2, hs3, hs4, hs5⟩ := SL.out w hSw
          clear hSw
          go_simp
          try with_reducible rfl
        try simp only [Act.put, List.setIfInBounds_toArray, List.set_cons_zero, List.set_cons_succ]
        refine wpAnyH_take (i := 34) (oi := { dst := some 56, op := Op.pick (Operand.tmp 39) (Operand.const (Value.bool true)) (Operand.tmp 55), type := 4, pos := "ref.go:146", after := #[{ on := 17, ground := Ground.data }, { on := 33, ground := Ground.data }], guard := none }) (v := ?_) rfl (by kernel_rfl) (by kernel_rfl) (by kernel_rfl) (fun _ _ _ h => h) (Or.inl ⟨by kernel_rfl, ?_⟩) hHeld ?_
        rotate_left
        · intro w hSw
          obtain ⟨hs0, hs1, hs2, hs3, hs4, hs5⟩ := SL.out w hSw
          clear hSw
          go_simp
          try with_reducible rfl
        try simp only [Act.put, List.setIfInBounds_toArray, List.set_cons_zero, List.set_cons_succ]
        refine wpAnyH_take (i := 35) (oi := { dst := some 8, op := Op.assign (Operand.tmp 56), type := 4, pos := "ref.go:146", after := #[{ on := 34, ground := Ground.data }, { on := 32, ground := Ground.chain }, { on := 0, ground := Ground.phase }, { on := 1, ground := Ground.phase }, { on := 2, ground := Ground.phase }, { on := 3, ground := Ground.phase }, { on := 4, ground := Ground.phase }, { on := 5, ground := Ground.phase }, { on := 6, ground := Ground.phase }, { on := 7, ground := Ground.phase }, { on := 8, ground := Ground.phase }, { on := 9, ground := Ground.phase }, { on := 10, ground := Ground.phase }, { on := 11, ground := Ground.phase }, { on := 12, ground := Ground.phase }, { on := 13, ground := Ground.phase }, { on := 14, ground := Ground.phase }, { on := 15, ground := Ground.phase }, { on := 16, ground := Ground.phase }, { on := 17, ground := Ground.phase }, { on := 18, ground := Ground.phase }, { on := 19, ground := Ground.phase }, { on := 20, ground := Ground.phase }, { on := 21, ground := Ground.phase }, { on := 22, ground := Ground.phase }, { on := 23, ground := Ground.phase }, { on := 24, ground := Ground.phase }, { on := 25, ground := Ground.phase }, { on := 26, ground := Ground.phase }, { on := 27, ground := Ground.phase }, { on := 28, ground := Ground.phase }, { on := 29, ground := Ground.phase }, { on := 30, ground := Ground.phase }, { on := 31, ground := Ground.phase }, { on := 32, ground := Ground.phase }, { on := 33, ground := Ground.phase }, { on := 34, ground := Ground.phase }], guard := none }) (v := ?_) rfl (by kernel_rfl) (by kernel_rfl) (by kernel_rfl) (fun _ _ _ h => h) (Or.inl ⟨by kernel_rfl, ?_⟩) hHeld ?_
        rotate_left
        · intro w hSw
          obtain ⟨hs0, hs1, hs2, hs3, hs4, hs5⟩ := SL.out w hSw
          clear hSw
          go_simp
          try with_reducible rfl
        try simp only [Act.put, List.setIfInBounds_toArray, List.set_cons_zero, List.set_cons_succ]
        refine wpAnyH_done (by kernel_rfl) ?_ _
        have HF := Lib.hid hHeld.low
        clear hHeld SL
        go_wp2
        go_ret
        exact ⟨by rw [HS.out]; rfl, HF.out⟩
end Go.Proofs.YtilbbnjfaoldoaaDoor

namespace Go.Proofs.YtilbbnjfaoldoaaDoor
open Go Go.RowKit
attribute [local go_sem] cell_grow u64_sAnd u64_sOr u64_sDiff sDiff_all zeqI zneI sAnd_bit_zero sAnd_bit_zeroN sAnd_bit_nonzero rowOf_grow rowOk_grow rowOf_alloc rowOk_alloc

theorem allowedAt_bit (b : Bnd) (e : Nat) (is : Bool) : allowedAt b e is = if is then bitB b.can e else !bitB b.inn e := rfl
theorem some2 (r : Rl) (a b : Bnd) (e : Nat) : someB r [a, b] e 2 [] = elemOk [a, b] r.kind e := by
  unfold elemOk
  show ((!bitB a.inn e && ((!bitB b.inn e && asksB r.kind false false false) || (bitB b.can e && asksB r.kind false true false))) || (bitB a.can e && ((!bitB b.inn e && asksB r.kind true false false) || (bitB b.can e && asksB r.kind true true false)))) =
    ((List.range 4).any fun mask => (allowedAt a e (mask.testBit 0) && (allowedAt b e (mask.testBit 1) && true)) && asksB r.kind (mask.testBit 0) (mask.testBit 1) (mask.testBit 2))
  rw [show List.range 4 = [0, 1, 2, 3] from rfl]
  simp only [List.any_cons, List.any_nil, allowedAt_bit]
  show _ = ((!bitB a.inn e && (!bitB b.inn e && true) && asksB r.kind false false false) || ((bitB a.can e && (!bitB b.inn e && true) && asksB r.kind true false false) || ((!bitB a.inn e && (bitB b.can e && true) && asksB r.kind false true false) || ((bitB a.can e && (bitB b.can e && true) && asksB r.kind true true false) || false))))
  generalize asksB r.kind false false false = x0
  generalize asksB r.kind true false false = x1
  generalize asksB r.kind false true false = x2
  generalize asksB r.kind true true false = x3
  cases bitB a.inn e <;> cases bitB a.can e <;> cases bitB b.inn e <;> cases bitB b.can e <;> cases x0 <;> cases x1 <;> cases x2 <;> cases x3 <;> rfl
theorem some3 (r : Rl) (a b c : Bnd) (e : Nat) : someB r [a, b, c] e 3 [] = elemOk [a, b, c] r.kind e := by
  unfold elemOk
  show ((!bitB a.inn e && ((!bitB b.inn e && ((!bitB c.inn e && asksB r.kind false false false) || (bitB c.can e && asksB r.kind false false true))) || (bitB b.can e && ((!bitB c.inn e && asksB r.kind false true false) || (bitB c.can e && asksB r.kind false true true))))) ||
      (bitB a.can e && ((!bitB b.inn e && ((!bitB c.inn e && asksB r.kind true false false) || (bitB c.can e && asksB r.kind true false true))) || (bitB b.can e && ((!bitB c.inn e && asksB r.kind true true false) || (bitB c.can e && asksB r.kind true true true)))))) =
    ((List.range 8).any fun mask => (allowedAt a e (mask.testBit 0) && (allowedAt b e (mask.testBit 1) && (allowedAt c e (mask.testBit 2) && true))) && asksB r.kind (mask.testBit 0) (mask.testBit 1) (mask.testBit 2))
  rw [show List.range 8 = [0, 1, 2, 3, 4, 5, 6, 7] from rfl]
  simp only [List.any_cons, List.any_nil, allowedAt_bit]
  show _ = ((!bitB a.inn e && (!bitB b.inn e && (!bitB c.inn e && true)) && asksB r.kind false false false) || ((bitB a.can e && (!bitB b.inn e && (!bitB c.inn e && true)) && asksB r.kind true false false) || ((!bitB a.inn e && (bitB b.can e && (!bitB c.inn e && true)) && asksB r.kind false true false) || ((bitB a.can e && (bitB b.can e && (!bitB c.inn e && true)) && asksB r.kind true true false) ||
    ((!bitB a.inn e && (!bitB b.inn e && (bitB c.can e && true)) && asksB r.kind false false true) || ((bitB a.can e && (!bitB b.inn e && (bitB c.can e && true)) && asksB r.kind true false true) || ((!bitB a.inn e && (bitB b.can e && (bitB c.can e && true)) && asksB r.kind false true true) || ((bitB a.can e && (bitB b.can e && (bitB c.can e && true)) && asksB r.kind true true true) || false))))))))
  generalize asksB r.kind false false false = x0
  generalize asksB r.kind true false false = x1
  generalize asksB r.kind false true false = x2
  generalize asksB r.kind true true false = x3
  generalize asksB r.kind false false true = x4
  generalize asksB r.kind true false true = x5
  generalize asksB r.kind false true true = x6
  generalize asksB r.kind true true true = x7
  cases bitB a.inn e <;> cases bitB a.can e <;> cases bitB b.inn e <;> cases bitB b.can e <;> cases bitB c.inn e <;> cases bitB c.can e <;> simp only [Bool.not_true, Bool.not_false, Bool.false_and, Bool.true_and, Bool.and_true, Bool.false_or, Bool.or_false] <;> ac_rfl
theorem some_elem (r : Rl) (hf : RFit r) (h6 : r.kind ≠ 6) (l : List Bnd) (hl : l.length = r.vars.length) (e : Nat) : someB r l e l.length [] = elemOk l r.kind e := by
  rcases hf.1 with ⟨h, _⟩ | ⟨_, h2⟩ | ⟨_, h3⟩
  · exact absurd h h6
  · rw [h2] at hl
    match l, hl with
    | [a, b], _ => exact some2 r a b e
  · rw [h3] at hl
    match l, hl with
    | [a, b, c], _ => exact some3 r a b c e
theorem bls_nil (w : World) : Bls w w.heap.size (.slice none 0 0) [] := ⟨Nat.zero_le _, none, 0, rfl, Nat.le_refl _, Nat.zero_le _, fun h => absurd h (Nat.lt_irrefl _)⟩
theorem bget_ofB (b : List Bnd) (vars : List Int) (i : Nat) (h : i < vars.length) : bget (ofB b vars) i = bget b (iget vars i).toNat := by unfold ofB; simp [bget, iget, h]
set_option maxRecDepth 100000 in
set_option maxHeartbeats 4000000 in
theorem refCan_any (b : List Bnd) (hS : S12 b) (r : Rl) (hf : RFit r) (hr : ∀ i, i < r.vars.length → 0 ≤ iget r.vars i ∧ iget r.vars i < b.length) (vv bv : Value) (w : World) {B : Nat} (hv : Ints w B vv r.vars) (hb : Bnds w B bv b) (hB : B ≤ w.heap.size) :
    Gives Tryd.prog 78 #[.agg #[.int .i64 r.kind, vv, .int .i64 r.low, .int .i64 r.high], bv] w (.bool (possB b r)) := by
  unfold Gives
  have hlen : (ofB b r.vars).length = r.vars.length := by simp [ofB]
  obtain ⟨l, hl⟩ : ∃ l, l = ofB b r.vars := ⟨_, rfl⟩
  have hSl : S12 l := by rw [hl]; exact hS.of _
  have HV := Lib.hid hv; have HBV := Lib.hid hb; have HR := Lib.hid hr; have HF := Lib.hid hf; have HU := Lib.hid hS.u64; have HSL := Lib.hid hSl; have HLEN := Lib.hid hlen
  have HP : Hid (possB b r = possL l r) := Lib.hid (by rw [hl]; rfl)
  have HL := Lib.hid hl
  have hbl := hb.1
  obtain ⟨va, vc, rfl⟩ := hv.slice
  obtain ⟨ba, bc, rfl⟩ := hb.slice
  have h3 : r.vars.length ≤ 3 := by rcases hf.1 with h | h | h <;> omega
  have h1 : 1 ≤ r.vars.length := by rcases hf.1 with h | h | h <;> omega
  obtain ⟨i0, hi, hz0, hz1, hz2⟩ := info_parts Tryd.info67
  clear hv hb hr hf hS hSl hlen hl
  have K0 := Lib.hid (heap_new0 w (.cells #[.int .i64 r.kind, .slice va r.vars.length vc, .int .i64 r.low, .int .i64 r.high] 63)); have HB0 := Lib.hid (Below.new1 w (.cells #[.int .i64 r.kind, .slice va r.vars.length vc, .int .i64 r.low, .int .i64 r.high] 63))
  go_enter Tryd.func78, Tryd.ntmps78
  go_wp2_with fail
  go_loopw [5, 6] (fun yv i wr => ∃ k : Nat, k ≤ r.vars.length ∧ i = .int .i64 k ∧ wr.ownsRow (w.heap.size + 1) 67 2 yv k (bCells (ofB b (r.vars.take k))) ∧ (∀ j, j < k → (sDiff (bget l j).inn (bget l j).can == 0) = true) ∧
    wr.heap[w.heap.size]? = some (.cells #[.int .i64 r.kind, .slice va r.vars.length vc, .int .i64 r.low, .int .i64 r.high] 63 (0, 0)) ∧ Below w.heap.size w wr) (fun _ i _ => r.vars.length - (intOf i).toNat)
  case atStart => exact ⟨0, Nat.zero_le _, rfl, World.ownsRow_nil _ _ _ _, fun j hj => absurd hj (Nat.not_lt_zero _), K0.out, HB0.out⟩
  case round =>
    clear K0 HB0
    obtain ⟨k, hk, rfl, hown, hall, k0, hb⟩ := hrel
    have z0 : w.heap.size < wr.heap.size := (Array.getElem?_eq_some_iff.1 k0).1
    have c0 : wr.cell? ⟨w.heap.size, 0, none⟩ = some (.int .i64 r.kind) := by rw [cell_of_row _ _ _ _ _ _ k0]; rfl
    have c1 : wr.cell? ⟨w.heap.size, 1, none⟩ = some (.slice va r.vars.length vc) := by rw [cell_of_row _ _ _ _ _ _ k0]; rfl
    have c2 : wr.cell? ⟨w.heap.size, 2, none⟩ = some (.int .i64 r.low) := by rw [cell_of_row _ _ _ _ _ _ k0]; rfl
    have c3 : wr.cell? ⟨w.heap.size, 3, none⟩ = some (.int .i64 r.high) := by rw [cell_of_row _ _ _ _ _ _ k0]; rfl
    by_cases hlt : k < r.vars.length
    · obtain ⟨_, a', c', hae, _, _, hrow⟩ := HV.out.below hb hB
      cases hae
      obtain ⟨vb, vo, rfl, hvB, hvcell⟩ := hrow (by omega)
      have hrk := HR.out k hlt
      obtain ⟨v, hve⟩ : ∃ v : Nat, iget r.vars k = v := ⟨(iget r.vars k).toNat, by omega⟩
      have hvl : v < b.length := by omega
      have d0 : wr.cell? ⟨vb, vo + k, none⟩ = some (.int .i64 (v : Int)) := by rw [hvcell k (by omega)]; show some (Value.int .i64 (iget r.vars k)) = _; rw [hve]
      obtain ⟨_, a2, c2', hae2, _, _, hrow2⟩ := HBV.out.below hb hB
      cases hae2
      obtain ⟨bb, bo, rfl, hbB, hbcell⟩ := hrow2 (by omega)
      have d1 : wr.cell? ⟨bb, bo + v * 2, none⟩ = some (.int .u64 ((bget b v).inn : Nat)) := by rw [hbcell _ (by omega), bcellAt_inn]
      have d2 : wr.cell? ⟨bb, bo + v * 2 + 1, none⟩ = some (.int .u64 ((bget b v).can : Nat)) := by rw [← bcellAt_can]; exact hbcell (v * 2 + 1) (by omega)
      have hts := ofB_take_succ b r.vars k hlt
      rw [hve, Int.toNat_natCast] at hts
      have hbe : bget l k = bget b v := by rw [HL.out, bget_ofB _ _ _ hlt, hve]; simp
      have hu := HU.out.get v
      have hu1 := hu.1; have hu2 := hu.2
      have HOW := Lib.hid hown; have K0 := Lib.hid k0; have HB := Lib.hid hb; have HTS := Lib.hid hts; have HALL := Lib.hid hall; have HBE := Lib.hid hbe
      have zv : vb < wr.heap.size := by omega
      have zb : bb < wr.heap.size := by omega
      clear hown k0 hb hts hall hrow hrow2 hvcell hbcell hrk hve hu hbe c0 c2 c3
      go_wp2_with (at_builtin; refine wpList_append_own _ rfl _ _ 22 rfl (w.heap.size + 1) 67 i0 (.agg #[.int .u64 0, .int .u64 0]) 2 16 Tryd.underlying22 hi hz0 hz1 hz2 rfl (by decide) _ _ _ rfl (HOW.out.alloc _) ⟨wr.heap.size, 0, none⟩ 1 1 [.int .u64 ((bget b v).inn : Nat), .int .u64 ((bget b v).can : Nat)] rfl rfl ?c1 ?c2 ?c3 ?c4 ?c5 ?_)
      case c1 =>
        intro q u hq
        match q, hq with
        | 0, hq => simp at hq; subst hq; simp [Addr.add]
        | 1, hq => simp at hq; subst hq; simp [Addr.add]
      case c2 => intro u hu; simp at hu; rcases hu with rfl | rfl <;> rfl
      case c3 => unfold maxLen; omega
      case c4 => omega
      case c5 => simp; omega
      intro v' w3 hown3 hgrow3 _
      have hb3 := (HB.out.alloc HB.out.size (.cells #[.int .u64 ((bget b v).inn : Nat), .int .u64 ((bget b v).can : Nat)] 67)).grown hgrow3 (by have := HB.out.size; simp; omega) (fun q hq => by have := (HOW.out.lt q hq).1; omega)
      have k3 := (hgrow3.block w.heap.size (by simp; omega) (fun hh => by have := (HOW.out.lt _ hh.symm).1; omega)).trans (heap_old K0.out)
      have e2 : bCells (ofB b (r.vars.take k)) ++ [.int .u64 ((bget b v).inn : Nat), .int .u64 ((bget b v).can : Nat)] = bCells (ofB b (r.vars.take (k + 1))) := by rw [HTS.out, bCells_snoc]
      rw [e2] at hown3
      have zw := hb3.size
      have hall3 : ∀ q o, q < w.heap.size → w3.cell? ⟨q, o, none⟩ = wr.cell? ⟨q, o, none⟩ := fun q o hq => (hb3.cell (p := ⟨q, o, none⟩) hq).trans (HB.out.cell (p := ⟨q, o, none⟩) hq).symm
      rw [← hall3 _ _ (by omega)] at d0 d1 d2
      have c1 : w3.cell? ⟨w.heap.size, 1, none⟩ = some (.slice (some ⟨vb, vo, none⟩) r.vars.length vc) := by rw [cell_of_row _ _ _ _ _ _ k3]; rfl
      have HO3 := Lib.hid hown3; have HB3 := Lib.hid hb3; have K3 := Lib.hid k3
      have z3 : w.heap.size < w3.heap.size := (Array.getElem?_eq_some_iff.1 k3).1
      have zv3 : vb < w3.heap.size := by omega
      have zb3 : bb < w3.heap.size := by omega
      clear hown3 hgrow3 hb3 k3 e2 hall3 zw
      cases hd : (sDiff (bget b v).inn (bget b v).can == 0)
      case false =>
        have HN : Hid (possB b r = false) := Lib.hid (by rw [HP.out]; exact possL_clash (clashB_yes (k := k) (by rw [HL.out, HLEN.out]; exact hlt) (by rw [HBE.out]; exact hd)))
        go_wp2_with fail
        refine wp_region_qb (by kernel_rfl) (by kernel_rfl) ?_
        repeat go_big_quiet_step (fail)
        refine wpQuiet_nil ?_
        intro w4 hb4
        have HB4 := Lib.hid (HB3.out.trans (hb4.mono HB3.out.size))
        clear hb4
        go_wp2
        go_ret
        exact ⟨by rw [HN.out]; rfl, HB4.out⟩
      case true =>
        have HD : Hid ((sDiff (bget l k).inn (bget l k).can == 0) = true) := Lib.hid (by rw [HBE.out]; exact hd)
        go_wp2_with fail
        refine wp_region_qb (by kernel_rfl) (by kernel_rfl) ?_
        repeat go_big_quiet_step (fail)
        refine wpQuiet_nil ?_
        intro w4 hb4
        have HB4 := Lib.hid (HB3.out.trans (hb4.mono HB3.out.size)); have K4 := Lib.hid (heap_later K3.out hb4 z3); have HO4 := Lib.hid (own_ck HO3.out (CK.below hb4))
        clear hb4 hd
        go_wp2
        go_roundw
        case rel => exact ⟨k + 1, by omega, by go_num, HO4.out, fun j hj => if h : j = k then h ▸ HD.out else HALL.out j (by omega), K4.out, HB4.out⟩
        case measure => simp [intOf]; omega
    · have hk2 : k = r.vars.length := by omega
      subst hk2
      rw [List.take_length] at hown
      have hcl : clashB l = false := clashB_no (fun j hj => hall j (by rw [HL.out, HLEN.out] at hj; exact hj))
      have hll : l.length = r.vars.length := by rw [HL.out]; exact HLEN.out
      have hlb : Bnds wr wr.heap.size u5 l := by
        rw [← HL.out] at hown
        exact bnds_own hown hll (by omega)
      obtain ⟨la, lc, hyv⟩ := hlb.slice
      rw [hll] at hyv
      subst hyv
      have HLB := Lib.hid hlb; have K0 := Lib.hid k0; have HB := Lib.hid hb; have HLL := Lib.hid hll
      clear hown hall k0 hb hlb hll
      cases h6 : (r.kind == 6)
      case true =>
        have hl1 : r.vars.length = 1 := by
          have hk : r.kind = 6 := by simpa using h6
          rcases HF.out.1 with h | h | h
          · exact h.2
          · omega
          · omega
        obtain ⟨_, a', c', hae, _, _, hrow⟩ := HLB.out
        rw [HLL.out] at hae
        cases hae
        obtain ⟨lb, lo, rfl, hlB, hcell⟩ := hrow (by rw [HLL.out]; omega)
        have d0 : wr.cell? ⟨lb, lo, none⟩ = some (.int .u64 ((bget l 0).inn : Nat)) := by have := hcell 0 (by rw [HLL.out]; omega); rw [show bcellAt l 0 = .int .u64 ((bget l 0).inn : Nat) from bcellAt_inn l 0] at this; exact this
        have d1 : wr.cell? ⟨lb, lo + 1, none⟩ = some (.int .u64 ((bget l 0).can : Nat)) := by have := hcell 1 (by rw [HLL.out]; omega); rw [show bcellAt l 1 = .int .u64 ((bget l 0).can : Nat) from bcellAt_can l 0] at this; exact this
        have hg := HSL.out.get 0
        have p1 : popc (bget l 0).inn = cntN (bget l 0).inn 12 := popc_12 _ hg.1
        have p2 : popc (bget l 0).can = cntN (bget l 0).can 12 := popc_12 _ hg.2
        have hPC := possL_count hcl h6
        rw [p1, p2] at hPC
        have HPC := Lib.hid hPC
        have HG1 := Lib.hid (fun (d : Nat) (os : Array Obj) => Gives.of_same (count_any (bget l 0).inn (Go.Sort.grow (redrawn wr d) os) (HSL.out.u64.get 0).1))
        have HG2 := Lib.hid (fun (d : Nat) (os : Array Obj) => Gives.of_same (count_any (bget l 0).can (Go.Sort.grow (redrawn wr d) os) (HSL.out.u64.get 0).2))
        have H1 := Lib.hid hl1
        have hpos : 0 < r.vars.length := by omega
        clear hcell hrow hg p1 p2 hPC hcl hl1
        cases hA : decide (((cntN (bget l 0).inn 12 : Nat) : Int) ≤ r.high) <;> cases hC : decide (r.low ≤ ((cntN (bget l 0).can 12 : Nat) : Int))
        all_goals
          go_wp2_with fail
          refine wp_region_qb (by kernel_rfl) (by kernel_rfl) ?_
          repeat go_big_quiet_step ((first | (with_reducible exact Gives.quiet (HG1.out _ _)) | (with_reducible exact Gives.quiet (HG2.out _ _))))
          refine wpQuiet_nil ?_
          intro w4 hb4
          have HB4 := Lib.hid (HB.out.trans (hb4.mono HB.out.size))
          clear hb4
          go_wp2
          go_ret
          exact ⟨by rw [HP.out, HPC.out, hA, hC]; rfl, HB4.out⟩
      case false =>
        have h6n : r.kind ≠ 6 := by simpa using h6
        have HE := Lib.hid (possL_else hcl h6)
        have HSE := Lib.hid (fun e => some_elem r HF.out h6n l HLL.out e)
        clear hcl
        obtain ⟨wo, rfl⟩ : ∃ wo : World, wo = wr := ⟨_, rfl⟩
        go_wp2_with fail
        clear c0 c1 c2 c3
        go_loopw [7] (fun i wr => ∃ e : Nat, e ≤ 12 ∧ i = .int .i64 e ∧ (∀ j, j < e → elemOk l r.kind j = true) ∧ Below wo.heap.size wo wr) (fun i _ => 12 - (intOf i).toNat)
        case atStart => exact ⟨0, Nat.zero_le _, rfl, fun j hj => absurd hj (Nat.not_lt_zero _), Below.refl _ _⟩
        case round =>
          obtain ⟨e, he, rfl, hall, hb⟩ := hrel
          have HB2 := Lib.hid (HB.out.trans (hb.mono HB.out.size)); have HALL := Lib.hid hall; have HBI := Lib.hid hb
          have k2 := heap_later K0.out hb z0
          have c0 : wr.cell? ⟨w.heap.size, 0, none⟩ = some (.int .i64 r.kind) := by rw [cell_of_row _ _ _ _ _ _ k2]; rfl
          have c1 : wr.cell? ⟨w.heap.size, 1, none⟩ = some (.slice va r.vars.length vc) := by rw [cell_of_row _ _ _ _ _ _ k2]; rfl
          have c2 : wr.cell? ⟨w.heap.size, 2, none⟩ = some (.int .i64 r.low) := by rw [cell_of_row _ _ _ _ _ _ k2]; rfl
          have c3 : wr.cell? ⟨w.heap.size, 3, none⟩ = some (.int .i64 r.high) := by rw [cell_of_row _ _ _ _ _ _ k2]; rfl
          have hsz := hb.size
          have hlb := HLB.out.below hb (Nat.le_refl _)
          have HLB2 := Lib.hid hlb
          clear hb hall k2 hlb
          by_cases hlt : e < 12
          · have hli : decide (((e : Nat) : Int) < 12) = true := by simp; omega
            go_wp2_with fail
            refine (refSome_any r HF.out h6n va _ vc l HLL.out HSL.out.u64 e hlt l.length [] _ _ wr wr.heap.size (by simp) (HLB2.out.mono hsz) (bls_nil wr) (Nat.le_refl _)).mono ?_
            rintro q w4 ⟨rfl, hb4⟩
            rw [HSE.out e]
            have HB4 := Lib.hid (HBI.out.trans (hb4.mono hsz)); have HF4 := Lib.hid (HB2.out.trans (hb4.mono HB2.out.size))
            clear hb4 c0 c1 c2 c3 hli
            cases hel : elemOk l r.kind e
            case false =>
              have HN : Hid (possB b r = false) := Lib.hid (by
                rw [HP.out, HE.out, Bool.eq_false_iff]
                intro hc
                have := List.all_eq_true.1 hc e (List.mem_range.2 hlt)
                rw [hel] at this; cases this)
              clear hel
              go_wp2
              go_ret
              exact ⟨by rw [HN.out]; rfl, HF4.out⟩
            case true =>
              have HEL := Lib.hid hel
              clear hel
              go_wp2
              go_roundw
              case rel => exact ⟨e + 1, by omega, by go_num, fun j hj => if h : j = e then h ▸ HEL.out else HALL.out j (by omega), HB4.out⟩
              case measure => simp [intOf]; omega
          · have he2 : e = 12 := by omega
            subst he2
            have HY : Hid (possB b r = true) := Lib.hid (by
              rw [HP.out, HE.out, List.all_eq_true]
              exact fun i hi => HALL.out i (List.mem_range.1 hi))
            go_wp2
            go_ret
            exact ⟨by rw [HY.out]; rfl, HB2.out⟩
def followsOps : Array Oper := #[
  { dst := some 7, op := Op.load 63 (Operand.tmp 3), type := 63, pos := "ref.go:192", after := #[], guard := none },
  { dst := some 8, op := Op.move (Operand.tmp 1), type := 22, pos := "ref.go:192", after := #[], guard := none },
  { dst := some 9, op := Op.fieldAddr 56 (Operand.tmp 5) 0, type := 0, pos := "ref.go:192", after := #[], guard := none },
  { dst := some 10, op := Op.load 3 (Operand.tmp 9), type := 3, pos := "ref.go:192", after := #[{ on := 2, ground := Ground.data }], guard := none },
  { dst := some 11, op := Op.fieldAddr 56 (Operand.tmp 5) 1, type := 0, pos := "ref.go:192", after := #[], guard := none },
  { dst := some 12, op := Op.load 3 (Operand.tmp 11), type := 3, pos := "ref.go:192", after := #[{ on := 4, ground := Ground.data }], guard := none },
  { dst := some 13, op := Op.fieldAddr 56 (Operand.tmp 5) 2, type := 0, pos := "ref.go:192", after := #[], guard := none },
  { dst := some 14, op := Op.load 4 (Operand.tmp 13), type := 4, pos := "ref.go:192", after := #[{ on := 6, ground := Ground.data }], guard := none },
  { dst := some 15, op := Op.unOp UnOp.not 4 (Operand.tmp 14), type := 4, pos := "ref.go:192", after := #[{ on := 7, ground := Ground.data }], guard := none },
  { dst := some 16, op := Op.call { callee := Callee.value (Operand.func 79), args := #[Operand.tmp 8, Operand.tmp 10, Operand.tmp 12, Operand.tmp 15], argTypes := #[22, 3, 3, 4] }, type := 22, pos := "ref.go:192", after := #[{ on := 1, ground := Ground.data }, { on := 3, ground := Ground.data }, { on := 5, ground := Ground.data }, { on := 8, ground := Ground.data }], guard := none },
  { dst := some 17, op := Op.call { callee := Callee.value (Operand.func 78), args := #[Operand.tmp 7, Operand.tmp 16], argTypes := #[63, 22] }, type := 4, pos := "ref.go:192", after := #[{ on := 0, ground := Ground.data }, { on := 9, ground := Ground.data }, { on := 9, ground := Ground.chain }], guard := none },
  { dst := some 18, op := Op.unOp UnOp.not 4 (Operand.tmp 17), type := 4, pos := "ref.go:192", after := #[{ on := 10, ground := Ground.data }], guard := none },
  { dst := some 6, op := Op.assign (Operand.tmp 18), type := 4, pos := "ref.go:192", after := #[{ on := 11, ground := Ground.data }, { on := 10, ground := Ground.chain }, { on := 0, ground := Ground.phase }, { on := 1, ground := Ground.phase }, { on := 2, ground := Ground.phase }, { on := 3, ground := Ground.phase }, { on := 4, ground := Ground.phase }, { on := 5, ground := Ground.phase }, { on := 6, ground := Ground.phase }, { on := 7, ground := Ground.phase }, { on := 8, ground := Ground.phase }, { on := 9, ground := Ground.phase }, { on := 10, ground := Ground.phase }, { on := 11, ground := Ground.phase }], guard := none }]
/-- What stays true in Follows. -/
structure FollowsAt (r : Rl) (va : Option Addr) (vc : Nat) (v e : Nat) (inn : Bool) (rule : Int) (ya : Option Addr) (yn yc : Nat) (w V : World) : Prop where
  r : V.heap[w.heap.size]? = some (.cells #[.int .i64 r.kind, .slice va r.vars.length vc, .int .i64 r.low, .int .i64 r.high] 63 (0, 0))
  f : V.heap[w.heap.size + 1]? = some (.cells #[.int .i64 v, .int .i64 e, .bool inn, .int .i64 rule, .slice ya yn yc] 56 (0, 0))
  low : Below w.heap.size w V
theorem FollowsAt.below {r : Rl} {va : Option Addr} {vc v e : Nat} {inn : Bool} {rule : Int} {ya : Option Addr} {yn yc : Nat} {w V V' : World} (h : FollowsAt r va vc v e inn rule ya yn yc w V) (hb : Below V.heap.size V V') : FollowsAt r va vc v e inn rule ya yn yc w V' :=
  ⟨heap_later h.r hb (Array.getElem?_eq_some_iff.1 h.r).1, heap_later h.f hb (Array.getElem?_eq_some_iff.1 h.f).1, h.low.trans (hb.mono h.low.size)⟩
theorem FollowsAt.cells {r : Rl} {va : Option Addr} {vc v e : Nat} {inn : Bool} {rule : Int} {ya : Option Addr} {yn yc : Nat} {w V : World} (h : FollowsAt r va vc v e inn rule ya yn yc w V) :
    V.cell? ⟨w.heap.size, 0, none⟩ = some (.int .i64 r.kind) ∧ V.cell? ⟨w.heap.size, 1, none⟩ = some (.slice va r.vars.length vc) ∧ V.cell? ⟨w.heap.size, 2, none⟩ = some (.int .i64 r.low) ∧ V.cell? ⟨w.heap.size, 3, none⟩ = some (.int .i64 r.high) ∧
      V.cell? ⟨w.heap.size + 1, 0, none⟩ = some (.int .i64 v) ∧ V.cell? ⟨w.heap.size + 1, 1, none⟩ = some (.int .i64 e) ∧ V.cell? ⟨w.heap.size + 1, 2, none⟩ = some (.bool inn) :=
  ⟨by rw [cell_of_row _ _ _ _ _ _ h.r]; rfl, by rw [cell_of_row _ _ _ _ _ _ h.r]; rfl, by rw [cell_of_row _ _ _ _ _ _ h.r]; rfl, by rw [cell_of_row _ _ _ _ _ _ h.r]; rfl, by rw [cell_of_row _ _ _ _ _ _ h.f]; rfl, by rw [cell_of_row _ _ _ _ _ _ h.f]; rfl, by rw [cell_of_row _ _ _ _ _ _ h.f]; rfl⟩
set_option maxRecDepth 100000 in
set_option maxHeartbeats 1000000 in
theorem refFollows_any (b : List Bnd) (hS : S12 b) (r : Rl) (hf : RFit r) (hr : ∀ i, i < r.vars.length → 0 ≤ iget r.vars i ∧ iget r.vars i < b.length) (hbl : b.length ≤ 8) (v e : Nat) (hv : v < b.length) (he : e < 12) (inn : Bool) (rule : Int) (ya : Option Addr) (yn yc : Nat) (vv bv : Value) (w : World) {B : Nat} (hvv : Ints w B vv r.vars) (hb : Bnds w B bv b) (hB : B ≤ w.heap.size) :
    Gives Tryd.prog 32 #[.agg #[.int .i64 r.kind, vv, .int .i64 r.low, .int .i64 r.high], bv, .agg #[.int .i64 v, .int .i64 e, .bool inn, .int .i64 rule, .slice ya yn yc]] w (.bool (!possB (withB b v e (!inn)) r)) := by
  unfold Gives
  have HV := Lib.hid hvv; have HBV := Lib.hid hb; have HR := Lib.hid hr; have HF := Lib.hid hf; have HS := Lib.hid hS
  obtain ⟨va, vc, rfl⟩ := hvv.slice
  obtain ⟨ba, bc, rfl⟩ := hb.slice
  clear hvv hb hr hf hS
  have hn2 := heap_new2 w (.cells #[.int .i64 r.kind, .slice va r.vars.length vc, .int .i64 r.low, .int .i64 r.high] 63) (.cells #[.int .i64 v, .int .i64 e, .bool inn, .int .i64 rule, .slice ya yn yc] 56)
  have K0 := Lib.hid hn2.1; have K1 := Lib.hid hn2.2
  have HB0 := Lib.hid (Below.new2 w (.cells #[.int .i64 r.kind, .slice va r.vars.length vc, .int .i64 r.low, .int .i64 r.high] 63) (.cells #[.int .i64 v, .int .i64 e, .bool inn, .int .i64 rule, .slice ya yn yc] 56))
  clear hn2
  go_enter Tryd.func32, Tryd.ntmps32
  go_upto_region 1 with fail
  refine abs_wp (fun W => W.heap[w.heap.size]? = some (.cells #[.int .i64 r.kind, .slice va r.vars.length vc, .int .i64 r.low, .int .i64 r.high] 63 (0, 0)) ∧ W.heap[w.heap.size + 1]? = some (.cells #[.int .i64 v, .int .i64 e, .bool inn, .int .i64 rule, .slice ya yn yc] 56 (0, 0)) ∧ Below w.heap.size w W) ⟨K0.out, K1.out, HB0.out⟩ ?_
  clear K0 K1 HB0
  rintro W ⟨k0, k1, hb⟩
  have hHeld : FollowsAt r va vc v e inn rule ya yn yc w W.drew := ⟨heap_later k0 (Below.drewn (Below.refl _ _)) (Array.getElem?_eq_some_iff.1 k0).1, heap_later k1 (Below.drewn (Below.refl _ _)) (Array.getElem?_eq_some_iff.1 k1).1, Below.drewn hb⟩
  clear k0 k1 hb
  have SL := Lib.hid (fun (V : World) (h : FollowsAt r va vc v e inn rule ya yn yc w V) => h.cells)
  refine wp_region_held_drew (S := FollowsAt r va vc v e inn rule ya yn yc w) (by kernel_rfl) hHeld (fun hHeld => ?_)
  change wpAnyH _ _ followsOps _ _ _ _ _ _
  refine abs_anyHS (fun _ => True) trivial hHeld ?_
  clear hHeld
  rintro V - hHeld
  refine wpAnyH_take (i := 0) (oi := { dst := some 7, op := Op.load 63 (Operand.tmp 3), type := 63, pos := "ref.go:192", after := #[], guard := none }) (v := ?_) rfl (by kernel_rfl) (by kernel_rfl) (by kernel_rfl) (fun _ _ _ h => h) (Or.inl ⟨by kernel_rfl, ?_⟩) hHeld ?_
  rotate_left
  · intro w hSw
    obtain ⟨hs0, hs1, hs2, hs3, hs4, hs5, hs6⟩ := SL.out w hSw
    clear hSw
    go_simp
    try with_reducible rfl
  try simp only [Act.put, List.setIfInBounds_toArray, List.set_cons_zero, List.set_cons_succ]
  refine wpAnyH_take (i := 1) (oi := { dst := some 8, op := Op.move (Operand.tmp 1), type := 22, pos := "ref.go:192", after := #[], guard := none }) (v := ?_) rfl (by kernel_rfl) (by kernel_rfl) (by kernel_rfl) (fun _ _ _ h => h) (Or.inl ⟨by kernel_rfl, ?_⟩) hHeld ?_
  rotate_left
  · intro w hSw
    obtain ⟨hs0, hs1, hs2, hs3, hs4, hs5, hs6⟩ := SL.out w hSw
    clear hSw
    go_simp
    try with_reducible rfl
  try simp only [Act.put, List.setIfInBounds_toArray, List.set_cons_zero, List.set_cons_succ]
  refine wpAnyH_take (i := 2) (oi := { dst := some 9, op := Op.fieldAddr 56 (Operand.tmp 5) 0, type := 0, pos := "ref.go:192", after := #[], guard := none }) (v := ?_) rfl (by kernel_rfl) (by kernel_rfl) (by kernel_rfl) (fun _ _ _ h => h) (Or.inl ⟨by kernel_rfl, ?_⟩) hHeld ?_
  rotate_left
  · intro w hSw
    obtain ⟨hs0, hs1, hs2, hs3, hs4, hs5, hs6⟩ := SL.out w hSw
    clear hSw
    go_simp
    try with_reducible rfl
  try simp only [Act.put, List.setIfInBounds_toArray, List.set_cons_zero, List.set_cons_succ]
  refine wpAnyH_take (i := 3) (oi := { dst := some 10, op := Op.load 3 (Operand.tmp 9), type := 3, pos := "ref.go:192", after := #[{ on := 2, ground := Ground.data }], guard := none }) (v := ?_) rfl (by kernel_rfl) (by kernel_rfl) (by kernel_rfl) (fun _ _ _ h => h) (Or.inl ⟨by kernel_rfl, ?_⟩) hHeld ?_
  rotate_left
  · intro w hSw
    obtain ⟨hs0, hs1, hs2, hs3, hs4, hs5, hs6⟩ := SL.out w hSw
    clear hSw
    go_simp
    try with_reducible rfl
  try simp only [Act.put, List.setIfInBounds_toArray, List.set_cons_zero, List.set_cons_succ]
  refine wpAnyH_take (i := 4) (oi := { dst := some 11, op := Op.fieldAddr 56 (Operand.tmp 5) 1, type := 0, pos := "ref.go:192", after := #[], guard := none }) (v := ?_) rfl (by kernel_rfl) (by kernel_rfl) (by kernel_rfl) (fun _ _ _ h => h) (Or.inl ⟨by kernel_rfl, ?_⟩) hHeld ?_
  rotate_left
  · intro w hSw
    obtain ⟨hs0, hs1, hs2, hs3, hs4, hs5, hs6⟩ := SL.out w hSw
    clear hSw
    go_simp
    try with_reducible rfl
  try simp only [Act.put, List.setIfInBounds_toArray, List.set_cons_zero, List.set_cons_succ]
  refine wpAnyH_take (i := 5) (oi := { dst := some 12, op := Op.load 3 (Operand.tmp 11), type := 3, pos := "ref.go:192", after := #[{ on := 4, ground := Ground.data }], guard := none }) (v := ?_) rfl (by kernel_rfl) (by kernel_rfl) (by kernel_rfl) (fun _ _ _ h => h) (Or.inl ⟨by kernel_rfl, ?_⟩) hHeld ?_
  rotate_left
  · intro w hSw
    obtain ⟨hs0, hs1, hs2, hs3, hs4, hs5, hs6⟩ := SL.out w hSw
    clear hSw
    go_simp
    try with_reducible rfl
  try simp only [Act.put, List.setIfInBounds_toArray, List.set_cons_zero, List.set_cons_succ]
  refine wpAnyH_take (i := 6) (oi := { dst := some 13, op := Op.fieldAddr 56 (Operand.tmp 5) 2, type := 0, pos := "ref.go:192", after := #[], guard := none }) (v := ?_) rfl (by kernel_rfl) (by kernel_rfl) (by kernel_rfl) (fun _ _ _ h => h) (Or.inl ⟨by kernel_rfl, ?_⟩) hHeld ?_
  rotate_left
  · intro w hSw
    obtain ⟨hs0, hs1, hs2, hs3, hs4, hs5, hs6⟩ := SL.out w hSw
    clear hSw
    go_simp
    try with_reducible rfl
  try simp only [Act.put, List.setIfInBounds_toArray, List.set_cons_zero, List.set_cons_succ]
  refine wpAnyH_take (i := 7) (oi := { dst := some 14, op := Op.load 4 (Operand.tmp 13), type := 4, pos := "ref.go:192", after := #[{ on := 6, ground := Ground.data }], guard := none }) (v := ?_) rfl (by kernel_rfl) (by kernel_rfl) (by kernel_rfl) (fun _ _ _ h => h) (Or.inl ⟨by kernel_rfl, ?_⟩) hHeld ?_
  rotate_left
  · intro w hSw
    obtain ⟨hs0, hs1, hs2, hs3, hs4, hs5, hs6⟩ := SL.out w hSw
    clear hSw
    go_simp
    try with_reducible rfl
  try simp only [Act.put, List.setIfInBounds_toArray, List.set_cons_zero, List.set_cons_succ]
  refine wpAnyH_take (i := 8) (oi := { dst := some 15, op := Op.unOp UnOp.not 4 (Operand.tmp 14), type := 4, pos := "ref.go:192", after := #[{ on := 7, ground := Ground.data }], guard := none }) (v := ?_) rfl (by kernel_rfl) (by kernel_rfl) (by kernel_rfl) (fun _ _ _ h => h) (Or.inl ⟨by kernel_rfl, ?_⟩) hHeld ?_
  rotate_left
  · intro w hSw
    obtain ⟨hs0, hs1, hs2, hs3, hs4, hs5, hs6⟩ := SL.out w hSw
    clear hSw
    go_simp
    try with_reducible rfl
  try simp only [Act.put, List.setIfInBounds_toArray, List.set_cons_zero, List.set_cons_succ]
  refine wpAnyH_ready (rs := [9]) (by kernel_rfl) (by simp) ?_
  refine AllReadyH.cons (o := { dst := some 16, op := Op.call { callee := Callee.value (Operand.func 79), args := #[Operand.tmp 8, Operand.tmp 10, Operand.tmp 12, Operand.tmp 15], argTypes := #[22, 3, 3, 4] }, type := 22, pos := "ref.go:192", after := #[{ on := 1, ground := Ground.data }, { on := 3, ground := Ground.data }, { on := 5, ground := Ground.data }, { on := 8, ground := Ground.data }], guard := none }) rfl (fun K hK => ?_) AllReadyH.nil
  go_simp
  refine (refWith_any b v e (!inn) _ _ (HBV.out.below hHeld.low hB) (Nat.le_trans hB hHeld.low.size) (by omega) hv (by omega) HS.out.u64).mono ?_
  rintro e1 V2 ⟨xv, rfl, hxv, hb2⟩
  obtain ⟨xa, xc, rfl⟩ := hxv.slice
  rw [withB_length] at hxv ⊢
  have HXV := Lib.hid hxv
  clear hxv
  go_wp2_with fail
  refine hK.out _ _ (hHeld.below hb2) (fun hHeld => ?_)
  clear hK K
  try simp only [Act.put, List.setIfInBounds_toArray, List.set_cons_zero, List.set_cons_succ]
  clear hb2
  refine wpAnyH_ready (rs := [10]) (by kernel_rfl) (by simp) ?_
  refine AllReadyH.cons (o := { dst := some 17, op := Op.call { callee := Callee.value (Operand.func 78), args := #[Operand.tmp 7, Operand.tmp 16], argTypes := #[63, 22] }, type := 4, pos := "ref.go:192", after := #[{ on := 0, ground := Ground.data }, { on := 9, ground := Ground.data }, { on := 9, ground := Ground.chain }], guard := none }) rfl (fun K hK => ?_) AllReadyH.nil
  go_simp
  have hlow := hHeld.low
  refine (refCan_any (withB b v e (!inn)) (HS.out.with (by omega) _) r HF.out (fun i hi => by rw [withB_length]; exact HR.out i hi) _ _ _ ((HV.out.below hlow hB).mono (Nat.le_trans hB hlow.size)) (by have := HXV.out; unfold Bnds at this ⊢; rw [withB_length] at this ⊢; exact this) (Nat.le_refl _)).mono ?_
  rintro e1 V3 ⟨rfl, hb3⟩
  clear hlow
  go_wp2_with fail
  refine hK.out _ _ (hHeld.below hb3) (fun hHeld => ?_)
  clear hK K
  try simp only [Act.put, List.setIfInBounds_toArray, List.set_cons_zero, List.set_cons_succ]
  clear hb3
  refine wpAnyH_take (i := 11) (oi := { dst := some 18, op := Op.unOp UnOp.not 4 (Operand.tmp 17), type := 4, pos := "ref.go:192", after := #[{ on := 10, ground := Ground.data }], guard := none }) (v := ?_) rfl (by kernel_rfl) (by kernel_rfl) (by kernel_rfl) (fun _ _ _ h => h) (Or.inl ⟨by kernel_rfl, ?_⟩) hHeld ?_
  rotate_left
  · intro w hSw
    obtain ⟨hs0, hs1, hs2, hs3, hs4, hs5, hs6⟩ := SL.out w hSw
    clear hSw
    go_simp
    try with_reducible rfl
  try simp only [Act.put, List.setIfInBounds_toArray, List.set_cons_zero, List.set_cons_succ]
  refine wpAnyH_take (i := 12) (oi := { dst := some 6, op := Op.assign (Operand.tmp 18), type := 4, pos := "ref.go:192", after := #[{ on := 11, ground := Ground.data }, { on := 10, ground := Ground.chain }, { on := 0, ground := Ground.phase }, { on := 1, ground := Ground.phase }, { on := 2, ground := Ground.phase }, { on := 3, ground := Ground.phase }, { on := 4, ground := Ground.phase }, { on := 5, ground := Ground.phase }, { on := 6, ground := Ground.phase }, { on := 7, ground := Ground.phase }, { on := 8, ground := Ground.phase }, { on := 9, ground := Ground.phase }, { on := 10, ground := Ground.phase }, { on := 11, ground := Ground.phase }], guard := none }) (v := ?_) rfl (by kernel_rfl) (by kernel_rfl) (by kernel_rfl) (fun _ _ _ h => h) (Or.inl ⟨by kernel_rfl, ?_⟩) hHeld ?_
  rotate_left
  · intro w hSw
    obtain ⟨hs0, hs1, hs2, hs3, hs4, hs5, hs6⟩ := SL.out w hSw
    clear hSw
    go_simp
    try with_reducible rfl
  try simp only [Act.put, List.setIfInBounds_toArray, List.set_cons_zero, List.set_cons_succ]
  refine wpAnyH_done (by kernel_rfl) ?_ _
  have HF := Lib.hid hHeld.low
  clear hHeld SL
  go_wp2
  go_ret
  exact ⟨rfl, HF.out⟩
end Go.Proofs.YtilbbnjfaoldoaaDoor
