/- The law's own search: all sets between bounds. -/
import Derived.Test.YtilbbnjfaoldoaaGreatDoorWaysA
namespace Go.Proofs.YtilbbnjfaoldoaaGreatDoor
open Go Go.RowKit
attribute [local go_sem] cell_grow u64_sAnd u64_sOr u64_sDiff sDiff_all zeqI zneI sAnd_bit_zero sAnd_bit_zeroN sAnd_bit_nonzero rowOf_grow rowOk_grow rowOf_alloc rowOk_alloc

section
variable {P : Program}
/-- An append to a slice cut to its length: always a new row. -/
theorem run_append_cut (w : World) (t ty e : TypeId) (i : TypeInfo) (z : Value) (bytes : Nat) (ht : P.underlying t = some (.slice e)) (hi : P.info? e = some i) (hz : i.zero = some z)
    (hsize : i.size = 1) (hby : i.bytes = bytes) (hzs : z.cells.size = 1) (a : Option Addr) (n c : Nat) (xs : List Value) (hown : w.ownsRow 0 e 1 (.slice a n c) n xs)
    (ad : Addr) (m : Nat) (x : Value) (hx : w.cell? ad = some x) (h1 : x.oneCell' = true) (had : ad.add 0 = ad) (hn : n ≤ 100) (hb8 : bytes ≤ 1000) :
    ∃ v' w', (Builtin.append_ #[t, t] ty #[.slice a n n, .slice (some ad) 1 m]).run P w = .ok v' w' ∧ w'.ownsRow 0 e 1 v' (n + 1) (xs ++ [x]) ∧ Below w.heap.size w w' := by
  have hl : ([x] : List Value).length = 1 * i.size := by rw [hsize]; rfl
  have hnews : ∀ j u, ([x] : List Value)[j]? = some u → w.cell? (ad.add j) = some u := fun j u hu => by
    cases j with
    | zero => rw [had]; simpa using hu ▸ hx
    | succ j => simp at hu
  have h1' : ∀ u ∈ ([x] : List Value), u.oneCell' = true := fun u hu => by rw [List.mem_singleton.1 hu]; exact h1
  have grown : ∀ (old : Nat), (w.drew.alloc (.cells (xs.toArray ++ [x].toArray ++ Builtin.zeroCells z.cells (grownCap w (n + 1) old e - (n + 1))) e)).ownsRow 0 e 1
        (.slice (some ⟨w.heap.size, 0, none⟩) (n + 1) (grownCap w (n + 1) old e)) (n + 1) (xs ++ [x]) ∧
      Below w.heap.size w (w.drew.alloc (.cells (xs.toArray ++ [x].toArray ++ Builtin.zeroCells z.cells (grownCap w (n + 1) old e - (n + 1))) e)) := by
    intro old
    have hge := grownCap_ge w (n + 1) old e
    have hcm : grownCap w (n + 1) old e ≤ maxLen := grownCap_le_maxLen w (n + 1) old e (by unfold maxLen; omega)
    have hxl := hown.1
    refine ⟨⟨by simp; omega, .inr ⟨w.heap.size, _, _, rfl, Nat.zero_le _, heap_alloc_new w.drew _, hge, hcm, ?_, ?_⟩⟩, (Below.drewn (Below.refl _ _)).alloc (Nat.le_refl _) _⟩
    · simp only [Array.size_append, List.size_toArray, size_zeroCells, hzs, hxl, List.length_singleton]
      omega
    · simp only [Array.toList_append, List.append_assoc]
      rw [← List.append_assoc, show (n + 1) * 1 = (xs ++ [x]).length by simp; omega]
      exact List.take_left
  rcases hown.2 with ⟨hv, hn0⟩ | ⟨g, cap, cur, hv, hbg, hg, hnc, hcm, hcs, htake⟩
  · simp only [Value.slice.injEq] at hv
    obtain ⟨rfl, rfl, rfl⟩ := hv
    have hxs : xs = [] := List.eq_nil_of_length_eq_zero (by simpa using hown.1)
    subst hxs
    have hr := run_append_nil (P := P) w t ty e i z ht hi hz ad 1 m [x] hl hnews (by omega) (by omega) (by rw [hby]; omega)
    have hgr := grown 0
    simp only [Nat.zero_add, List.nil_append, Array.empty_append] at hgr ⊢
    exact ⟨_, _, hr, hgr.1, hgr.2⟩
  · simp only [Value.slice.injEq] at hv
    obtain ⟨rfl, _, rfl⟩ := hv
    have holds : ∀ j u, xs[j]? = some u → w.cell? ((⟨g, 0, none⟩ : Addr).add j) = some u := hown.cells (g := g) rfl
    have hr := run_append_grow (P := P) w t ty e i z ht hi hz ⟨g, 0, none⟩ n n xs (by rw [hsize]; exact hown.1) holds ad 1 m [x] hl hnews (by omega) (by omega) (growslice_fits (by omega) (by rw [hby]; have : (n + 1) * bytes ≤ 101 * 1000 := Nat.mul_le_mul (by omega) hb8; omega))
    have hgr := grown n
    exact ⟨_, _, hr, hgr.1, hgr.2⟩
theorem wp_append_cut {o : Oper} {b : Act} {w : World} {K : Act → World → Prop} {Q : Exit → Act → World → Prop} (s y : Operand) (t : TypeId)
    (ho : o.op = .call { callee := .builtin .append, args := #[s, y], argTypes := #[t, t] })
    (e : TypeId) (i : TypeInfo) (z : Value) (bytes : Nat) (ht : P.underlying t = some (.slice e)) (hi : P.info? e = some i) (hz : i.zero = some z)
    (hsize : i.size = 1) (hby : i.bytes = bytes) (hzs : z.cells.size = 1) (a : Option Addr) (n c : Nat) (xs : List Value) (hown : w.ownsRow 0 e 1 (.slice a n c) n xs) (hs : b.eval s = .slice a n n)
    (ad : Addr) (m : Nat) (x : Value) (hy : b.eval y = .slice (some ad) 1 m) (hx : w.cell? ad = some x) (h1 : x.oneCell' = true) (had : ad.add 0 = ad) (hn : n ≤ 100) (hb8 : bytes ≤ 1000)
    (h : ∀ v' w', w'.ownsRow 0 e 1 v' (n + 1) (xs ++ [x]) → Below w.heap.size w w' → K (b.put o.dst v') w') : o.wp P b w K Q := by
  obtain ⟨v', w', hr, h2, h3⟩ := run_append_cut (P := P) w t o.type e i z bytes ht hi hz hsize hby hzs a n c xs hown ad m x hx h1 had hn hb8
  unfold Oper.wp execOp
  simp only [ho, resolve, invoke, builtin, Sem.run_bind, Sem.run_pure, Result.andThen_ok, List.map_toArray, List.map_cons, List.map_nil, hs, hy, hr]
  exact h v' w' h2 h3
end
theorem foldW_few {g : List Nat → Bool} {m : Int} : ∀ (xs o : List (List Nat)), (o.length : Int) < m → (foldW g m xs o).1 = true → ((foldW g m xs o).2.length : Int) < m
  | [], o, h, _ => h
  | l :: ls, o, h, h1 => by
    unfold foldW at h1 ⊢
    by_cases hc : ((stW g o l).length : Int) < m
    · rw [if_pos hc] at h1 ⊢
      exact foldW_few ls _ hc h1
    · rw [if_neg hc] at h1; cases h1
theorem foldW_one (g : List Nat → Bool) (m : Int) (l : List Nat) (o : List (List Nat)) : foldW g m [l] o = (decide (((stW g o l).length : Int) < m), stW g o l) := by
  unfold foldW
  by_cases hc : ((stW g o l).length : Int) < m
  · rw [if_pos hc, decide_eq_true hc]; rfl
  · rw [if_neg hc, decide_eq_false hc]
theorem own_cap {w : World} {base : Nat} {e : TypeId} {sz n c : Nat} {a : Option Addr} {xs : List Value} (h : w.ownsRow base e sz (.slice a n c) n xs) : n ≤ c := by
  rcases h.2 with ⟨h1, h2⟩ | ⟨g, cap, cur, h1, _, _, h2, _⟩
  · omega
  · cases h1; exact h2
theorem sAnd_lt {a b : Nat} (h : b < 4096) : sAnd a b < 4096 := Nat.lt_of_le_of_lt Nat.and_le_right h
theorem sOr_lt {a b : Nat} (h : a < 4096) (h' : b < 4096) : sOr a b < 4096 := Nat.or_lt_two_pow (n := 12) h h'
theorem sDiff_lt {a b : Nat} (h : a < 4096) : sDiff a b < 4096 := Nat.xor_lt_two_pow (n := 12) h (Nat.lt_of_le_of_lt Nat.and_le_left h)
def lt4 (x : Nat) : Prop := x < 4096
def waysAOps : Array Oper := #[
  { dst := some 33, op := Op.move (Operand.tmp 0), type := 22, pos := "outright.go:192", after := #[], guard := none },
  { dst := some 34, op := Op.move (Operand.tmp 1), type := 35, pos := "outright.go:192", after := #[], guard := none },
  { dst := some 35, op := Op.move (Operand.tmp 1), type := 35, pos := "outright.go:192", after := #[], guard := none },
  { dst := some 36, op := Op.call { callee := Callee.builtin Builtin.len, args := #[Operand.tmp 35], argTypes := #[35] }, type := 3, pos := "outright.go:192", after := #[{ on := 2, ground := Ground.data }], guard := none },
  { dst := some 37, op := Op.move (Operand.tmp 1), type := 35, pos := "outright.go:192", after := #[], guard := none },
  { dst := some 38, op := Op.call { callee := Callee.builtin Builtin.len, args := #[Operand.tmp 37], argTypes := #[35] }, type := 3, pos := "outright.go:192", after := #[{ on := 4, ground := Ground.data }], guard := none },
  { dst := some 39, op := Op.slice 35 (Operand.tmp 34) none (some (Operand.tmp 36)) (some (Operand.tmp 38)), type := 35, pos := "outright.go:192", after := #[{ on := 1, ground := Ground.data }, { on := 3, ground := Ground.data }, { on := 5, ground := Ground.data }], guard := none },
  { dst := some 40, op := Op.fieldAddr 47 (Operand.tmp 7) 0, type := 0, pos := "outright.go:192", after := #[], guard := none },
  { dst := some 41, op := Op.load 38 (Operand.tmp 40), type := 38, pos := "outright.go:192", after := #[{ on := 7, ground := Ground.data }], guard := none },
  { dst := some 42, op := Op.move (Operand.tmp 9), type := 38, pos := "outright.go:192", after := #[], guard := none },
  { dst := some 43, op := Op.binOp BinOp.or 38 (Operand.tmp 41) (Operand.tmp 42) 38, type := 38, pos := "outright.go:192", after := #[{ on := 8, ground := Ground.data }, { on := 9, ground := Ground.data }], guard := none },
  { dst := some 44, op := Op.buildSlice 35 1 #[(0, Operand.tmp 43)], type := 35, pos := "outright.go:192", after := #[{ on := 10, ground := Ground.data }], guard := none },
  { dst := some 45, op := Op.call { callee := Callee.builtin Builtin.append, args := #[Operand.tmp 39, Operand.tmp 44], argTypes := #[35, 35] }, type := 35, pos := "outright.go:192", after := #[{ on := 6, ground := Ground.data }, { on := 11, ground := Ground.data }], guard := none },
  { dst := some 46, op := Op.move (Operand.tmp 2), type := 66, pos := "outright.go:192", after := #[], guard := none },
  { dst := some 47, op := Op.call { callee := Callee.value (Operand.func 25), args := #[Operand.tmp 33, Operand.tmp 45, Operand.tmp 46], argTypes := #[22, 35, 66] }, type := 4, pos := "outright.go:192", after := #[{ on := 0, ground := Ground.data }, { on := 12, ground := Ground.data }, { on := 13, ground := Ground.data }, { on := 12, ground := Ground.chain }], guard := none },
  { dst := some 48, op := Op.unOp UnOp.not 4 (Operand.tmp 47), type := 4, pos := "outright.go:192", after := #[{ on := 14, ground := Ground.data }], guard := none }]
set_option maxRecDepth 100000 in
set_option maxHeartbeats 4000000 in
theorem ways_any (p : Prob) (hpo : probOk p = true) (m : Nat) (hm : m ≤ 100) (bv rv : Value) (qp qo qm B base : Nat) (hBo : B ≤ qo) (hBb : B ≤ base) : ∀ (bs : List Bnd) (l : List Nat) (lv : Value) (ss : List (List Nat)) (w : World),
    bs = p.bounds.drop l.length → l.length ≤ p.bounds.length → (∀ s ∈ l, s < 4096) → ss.length < m → WayAt p m bv rv qp qm B base w → w.ownsRow 0 38 1 lv l.length (natsV l) → OutW w qo base ss →
    Calls Tryz.prog 25 #[bv, lv, .func (.func 26) #[] #[.pointer (some ⟨qp, 0, none⟩), .pointer (some ⟨qo, 0, none⟩), .pointer (some ⟨qm, 0, none⟩)]] w fun e w' =>
      e = .returned (.bool (foldW (heldAll p) m (waysP l bs) ss).1) ∧ OutW w' qo base (foldW (heldAll p) m (waysP l bs) ss).2 ∧ KeptT 35 (One qo) base w w' := by
  intro bs
  induction bs with
  | nil =>
    intro l lv ss w hbs hll hul hss hw hlv hout
    have hl : l.length = p.bounds.length := by
      have := congrArg List.length hbs
      simp at this; omega
    have hf := found1_any p hpo m bv rv qp qo qm B base hBo hBb l hl hul ss (by omega) lv w hw hlv hout
    have HF := Lib.hid hf
    have HL := Lib.hid hl
    rw [waysP_nil, foldW_one]
    obtain ⟨ba, bc, rfl⟩ := hw.bnds.slice
    obtain ⟨la, lc, rfl⟩ := own_form hlv
    rw [hl] at HF ⊢
    generalize decide (((stW (heldAll p) ss l).length : Int) < (m : Int)) = r at HF ⊢
    clear hf hbs hll hul hss hw hlv hout hl
    go_enter Tryz.func25, Tryz.ntmps25
    go_wp2_with fail
    refine HF.out.mono ?_
    rintro e w' ⟨rfl, ho, hk⟩
    have HO := Lib.hid ho; have HK := Lib.hid hk
    clear ho hk HF
    go_wp2
    go_ret
    exact ⟨rfl, HO.out, HK.out⟩
  | cons b bs ih =>
    intro l lv ss w hbs hll hul hss hw hlv hout
    have HIH := Lib.hid ih
    clear ih
    have hlt : l.length < p.bounds.length := by
      have := congrArg List.length hbs
      simp at this; omega
    have hget : bget p.bounds l.length = b ∧ bs = p.bounds.drop (l.length + 1) := by
      rw [List.drop_eq_getElem_cons hlt] at hbs
      injection hbs with h1 h2
      exact ⟨by unfold bget; rw [List.getElem?_eq_getElem hlt, h1]; rfl, h2⟩
    have hn8 := (probOk_fit hpo).2.1
    have hs12 := (Good.first hpo).s12.get l.length
    have hs12' : b.inn < 4096 ∧ b.can < 4096 := by
      have h2 : bget (padB p.bounds) l.length = bget p.bounds l.length := bget_pad _ _
      have h3 : (bget (padB p.bounds) l.length).inn < 4096 ∧ (bget (padB p.bounds) l.length).can < 4096 := hs12
      rw [h2, hget.1] at h3
      exact h3
    obtain ⟨ov, hko, hso⟩ := hout
    obtain ⟨la, lc, rfl⟩ := own_form hlv
    obtain ⟨_, ba, bc, rfl, hb1, hb2, hb3⟩ := hw.bnds
    obtain ⟨gb, go, rfl, hgB, hcell⟩ := hb3 (by omega)
    have hx0 := hcell (l.length * 2) (by omega)
    have hx1 := hcell (l.length * 2 + 1) (by omega)
    rw [bcellAt_inn, hget.1] at hx0
    rw [bcellAt_can, hget.1, ← Nat.add_assoc] at hx1
    have hi1 : U64 b.inn := Nat.lt_trans hs12'.1 (by decide)
    have hi2 : U64 b.can := Nat.lt_trans hs12'.2 (by decide)
    have h12a := hs12'.1
    have HDROP := Lib.hid hget.2
    obtain ⟨more, hmore⟩ : ∃ more, more = sDiff b.can b.inn := ⟨_, rfl⟩
    have hm12 : more < 4096 := by rw [hmore]; exact sDiff_lt hs12'.2
    have hmu : U64 more := Nat.lt_trans hm12 (by decide)
    have HMORE := Lib.hid hmore
    have hne : ((l.length : Int) == (p.bounds.length : Int)) = false := by
      rw [Bool.eq_false_iff]; intro h; have : (l.length : Int) = (p.bounds.length : Int) := by simpa using h
      omega
    have HW := Lib.hid hw; have HLV := Lib.hid hlv; have HKO := Lib.hid hko; have HSO := Lib.hid hso; have HUL := Lib.hid hul; have HPO := Lib.hid hpo
    have hn0 := Below.new1 w (.cells #[.int .u64 (b.inn : Nat), .int .u64 (b.can : Nat)] 47)
    have HN0 := Lib.hid hn0
    clear hbs hget hs12 hs12' hko hso hw hlv hb3 hcell hmore hul hpo hn0
    rw [waysP_cons]
    go_enter Tryz.func25, Tryz.ntmps25
    go_wp2_with fail
    rw [← HMORE.out]
    go_loopw [9] (fun i wr => ∃ (s : Nat) (ss' : List (List Nat)), i = .int .u64 s ∧ sAnd s more = s ∧ lt4 s ∧ ss'.length < m ∧ foldW (heldAll p) m (waysQ l b.inn (sDiff b.can b.inn) bs (sDiff b.can b.inn)) ss = foldW (heldAll p) m (waysQ l b.inn more bs s) ss' ∧
      wr.heap[w.heap.size]? = some (.cells #[.int .u64 (b.inn : Nat), .int .u64 (b.can : Nat)] 47 (0, 0)) ∧ WayAt p m (.slice (some ⟨gb, go, none⟩) p.bounds.length bc) rv qp qm B base wr ∧ wr.ownsRow 0 38 1 (.slice la l.length lc) l.length (natsV l) ∧ OutW wr qo base ss' ∧ KeptT 35 (One qo) base w wr) (fun i _ => (intOf i).toNat)
    case atStart =>
      refine ⟨more, ss, rfl, sAnd_idem _, hm12, hss, ?_, heap_new0 _ _, HW.out.below hBb HN0.out, own_ck HLV.out (CK.below HN0.out), OutW.below ⟨ov, HKO.out, HSO.out⟩ HN0.out, KeptT.of_below HN0.out⟩
      rw [HMORE.out]
    case round =>
      clear HW HLV HKO HSO HN0 hx0 hx1
      obtain ⟨s, ss', rfl, hsm, hs4, hs1, hfold, hkx, hwr, hlr, hor, hkr⟩ := hrel
      have hsu : U64 s := Nat.lt_trans hs4 (by decide)
      have y0 : wr.cell? ⟨w.heap.size, 0, none⟩ = some (.int .u64 (b.inn : Nat)) := by rw [cell_of_row _ _ _ _ _ _ hkx]; rfl
      have hlc := own_cap hlr
      have zr : w.heap.size < wr.heap.size := (Array.getElem?_eq_some_iff.1 hkx).1
      have HSM := Lib.hid hsm; have HS4 := Lib.hid hs4; have HFOLD := Lib.hid hfold; have HKX := Lib.hid hkx; have HWR := Lib.hid hwr; have HLR := Lib.hid hlr; have HOR := Lib.hid hor; have HKR := Lib.hid hkr
      clear hsm hs4 hfold hkx hwr hlr hor hkr
      go_wp2_with fail
      refine wp_region_held_drew (S := fun V => V.cell? ⟨w.heap.size, 0, none⟩ = some (.int .u64 (b.inn : Nat))) (by kernel_rfl) y0 (fun hHeld => ?_)
      change wpAnyH _ _ waysAOps _ _ _ _ _ _
      refine abs_anyHS (fun V => Below wr.heap.size wr V) (Below.drewn (Below.refl _ _)) hHeld ?_
      clear hHeld y0
      rintro V hbv hHeld
      have HBV := Lib.hid hbv
      have hsv := hbv.size
      clear hbv
      refine wpAnyH_take (i := 0) (oi := { dst := some 33, op := Op.move (Operand.tmp 0), type := 22, pos := "outright.go:192", after := #[], guard := none }) (v := ?_) rfl (by kernel_rfl) (by kernel_rfl) (by kernel_rfl) (fun _ _ _ h => h) (Or.inl ⟨by kernel_rfl, ?_⟩) hHeld ?_
      rotate_left
      · intro w hSw
        try dsimp only at hSw
        go_simp
        try with_reducible rfl
      try simp only [Act.put, List.setIfInBounds_toArray, List.set_cons_zero, List.set_cons_succ]
      refine wpAnyH_take (i := 1) (oi := { dst := some 34, op := Op.move (Operand.tmp 1), type := 35, pos := "outright.go:192", after := #[], guard := none }) (v := ?_) rfl (by kernel_rfl) (by kernel_rfl) (by kernel_rfl) (fun _ _ _ h => h) (Or.inl ⟨by kernel_rfl, ?_⟩) hHeld ?_
      rotate_left
      · intro w hSw
        try dsimp only at hSw
        go_simp
        try with_reducible rfl
      try simp only [Act.put, List.setIfInBounds_toArray, List.set_cons_zero, List.set_cons_succ]
      refine wpAnyH_take (i := 2) (oi := { dst := some 35, op := Op.move (Operand.tmp 1), type := 35, pos := "outright.go:192", after := #[], guard := none }) (v := ?_) rfl (by kernel_rfl) (by kernel_rfl) (by kernel_rfl) (fun _ _ _ h => h) (Or.inl ⟨by kernel_rfl, ?_⟩) hHeld ?_
      rotate_left
      · intro w hSw
        try dsimp only at hSw
        go_simp
        try with_reducible rfl
      try simp only [Act.put, List.setIfInBounds_toArray, List.set_cons_zero, List.set_cons_succ]
      refine wpAnyH_take (i := 3) (oi := { dst := some 36, op := Op.call { callee := Callee.builtin Builtin.len, args := #[Operand.tmp 35], argTypes := #[35] }, type := 3, pos := "outright.go:192", after := #[{ on := 2, ground := Ground.data }], guard := none }) (v := ?_) rfl (by kernel_rfl) (by kernel_rfl) (by kernel_rfl) (fun _ _ _ h => h) (Or.inl ⟨by kernel_rfl, ?_⟩) hHeld ?_
      rotate_left
      · intro w hSw
        try dsimp only at hSw
        go_simp
        try with_reducible rfl
      try simp only [Act.put, List.setIfInBounds_toArray, List.set_cons_zero, List.set_cons_succ]
      refine wpAnyH_take (i := 4) (oi := { dst := some 37, op := Op.move (Operand.tmp 1), type := 35, pos := "outright.go:192", after := #[], guard := none }) (v := ?_) rfl (by kernel_rfl) (by kernel_rfl) (by kernel_rfl) (fun _ _ _ h => h) (Or.inl ⟨by kernel_rfl, ?_⟩) hHeld ?_
      rotate_left
      · intro w hSw
        try dsimp only at hSw
        go_simp
        try with_reducible rfl
      try simp only [Act.put, List.setIfInBounds_toArray, List.set_cons_zero, List.set_cons_succ]
      refine wpAnyH_take (i := 5) (oi := { dst := some 38, op := Op.call { callee := Callee.builtin Builtin.len, args := #[Operand.tmp 37], argTypes := #[35] }, type := 3, pos := "outright.go:192", after := #[{ on := 4, ground := Ground.data }], guard := none }) (v := ?_) rfl (by kernel_rfl) (by kernel_rfl) (by kernel_rfl) (fun _ _ _ h => h) (Or.inl ⟨by kernel_rfl, ?_⟩) hHeld ?_
      rotate_left
      · intro w hSw
        try dsimp only at hSw
        go_simp
        try with_reducible rfl
      try simp only [Act.put, List.setIfInBounds_toArray, List.set_cons_zero, List.set_cons_succ]
      refine wpAnyH_take (i := 6) (oi := { dst := some 39, op := Op.slice 35 (Operand.tmp 34) none (some (Operand.tmp 36)) (some (Operand.tmp 38)), type := 35, pos := "outright.go:192", after := #[{ on := 1, ground := Ground.data }, { on := 3, ground := Ground.data }, { on := 5, ground := Ground.data }], guard := none }) (v := ?_) rfl (by kernel_rfl) (by kernel_rfl) (by kernel_rfl) (fun _ _ _ h => h) (Or.inl ⟨by kernel_rfl, ?_⟩) hHeld ?_
      rotate_left
      · intro w hSw
        try dsimp only at hSw
        go_simp
        try with_reducible rfl
      try simp only [Act.put, List.setIfInBounds_toArray, List.set_cons_zero, List.set_cons_succ]
      refine wpAnyH_take (i := 7) (oi := { dst := some 40, op := Op.fieldAddr 47 (Operand.tmp 7) 0, type := 0, pos := "outright.go:192", after := #[], guard := none }) (v := ?_) rfl (by kernel_rfl) (by kernel_rfl) (by kernel_rfl) (fun _ _ _ h => h) (Or.inl ⟨by kernel_rfl, ?_⟩) hHeld ?_
      rotate_left
      · intro w hSw
        try dsimp only at hSw
        go_simp
        try with_reducible rfl
      try simp only [Act.put, List.setIfInBounds_toArray, List.set_cons_zero, List.set_cons_succ]
      refine wpAnyH_take (i := 8) (oi := { dst := some 41, op := Op.load 38 (Operand.tmp 40), type := 38, pos := "outright.go:192", after := #[{ on := 7, ground := Ground.data }], guard := none }) (v := ?_) rfl (by kernel_rfl) (by kernel_rfl) (by kernel_rfl) (fun _ _ _ h => h) (Or.inl ⟨by kernel_rfl, ?_⟩) hHeld ?_
      rotate_left
      · intro w hSw
        try dsimp only at hSw
        go_simp
        try with_reducible rfl
      try simp only [Act.put, List.setIfInBounds_toArray, List.set_cons_zero, List.set_cons_succ]
      refine wpAnyH_take (i := 9) (oi := { dst := some 42, op := Op.move (Operand.tmp 9), type := 38, pos := "outright.go:192", after := #[], guard := none }) (v := ?_) rfl (by kernel_rfl) (by kernel_rfl) (by kernel_rfl) (fun _ _ _ h => h) (Or.inl ⟨by kernel_rfl, ?_⟩) hHeld ?_
      rotate_left
      · intro w hSw
        try dsimp only at hSw
        go_simp
        try with_reducible rfl
      try simp only [Act.put, List.setIfInBounds_toArray, List.set_cons_zero, List.set_cons_succ]
      refine wpAnyH_take (i := 10) (oi := { dst := some 43, op := Op.binOp BinOp.or 38 (Operand.tmp 41) (Operand.tmp 42) 38, type := 38, pos := "outright.go:192", after := #[{ on := 8, ground := Ground.data }, { on := 9, ground := Ground.data }], guard := none }) (v := ?_) rfl (by kernel_rfl) (by kernel_rfl) (by kernel_rfl) (fun _ _ _ h => h) (Or.inl ⟨by kernel_rfl, ?_⟩) hHeld ?_
      rotate_left
      · intro w hSw
        try dsimp only at hSw
        go_simp
        try with_reducible rfl
      try simp only [Act.put, List.setIfInBounds_toArray, List.set_cons_zero, List.set_cons_succ]
      refine wpAnyH_take (i := 13) (oi := { dst := some 46, op := Op.move (Operand.tmp 2), type := 66, pos := "outright.go:192", after := #[], guard := none }) (v := ?_) rfl (by kernel_rfl) (by kernel_rfl) (by kernel_rfl) (fun _ _ _ h => h) (Or.inl ⟨by kernel_rfl, ?_⟩) hHeld ?_
      rotate_left
      · intro w hSw
        try dsimp only at hSw
        go_simp
        try with_reducible rfl
      try simp only [Act.put, List.setIfInBounds_toArray, List.set_cons_zero, List.set_cons_succ]
      have HSX : Hid (sOr b.inn s < 4096) := Lib.hid (sOr_lt h12a HS4.out)
      refine wpAnyH_ready (rs := [11]) (by kernel_rfl) (by simp) ?_
      refine AllReadyH.cons (o := { dst := some 44, op := Op.buildSlice 35 1 #[(0, Operand.tmp 43)], type := 35, pos := "outright.go:192", after := #[{ on := 10, ground := Ground.data }], guard := none }) rfl (fun K hK => ?_) AllReadyH.nil
      go_simp
      refine hK.out _ _ ((World.cell?_of_block (a := ⟨w.heap.size, 0, none⟩) (heap_alloc_old V _ (by show w.heap.size < V.heap.size; omega))).trans hHeld) (fun hHeld => ?_)
      clear hK K
      try simp only [Act.put, List.setIfInBounds_toArray, List.set_cons_zero, List.set_cons_succ]
      refine abs_anyHS (fun Z => Below V.heap.size V Z ∧ Z.heap[V.heap.size]? = some (.cells #[.int .u64 (sOr b.inn s : Nat)] 38 (0, 0))) ⟨Below.new1 _ _, heap_new0 _ _⟩ hHeld ?_
      clear hHeld
      rintro X1 ⟨hbx, kx⟩ hHeld
      have KX := Lib.hid kx; have HBX := Lib.hid (HBV.out.trans (hbx.mono HBV.out.size))
      have zx := hbx.size
      clear hbx kx
      obtain ⟨j0, jin, jz0, jz1, jz2⟩ := info_parts Tryz.infoU
      refine wpAnyH_ready (rs := [12]) (by kernel_rfl) (by simp) ?_
      refine AllReadyH.cons (o := { dst := some 45, op := Op.call { callee := Callee.builtin Builtin.append, args := #[Operand.tmp 39, Operand.tmp 44], argTypes := #[35, 35] }, type := 35, pos := "outright.go:192", after := #[{ on := 6, ground := Ground.data }, { on := 11, ground := Ground.data }], guard := none }) rfl (fun K hK => ?_) AllReadyH.nil
      rw [if_pos (by rfl)]
      refine wp_append_cut _ _ 35 rfl 38 j0 (.int .u64 0) 8 Tryz.underlying35 jin jz0 jz1 jz2 rfl la l.length lc (natsV l) (own_ck HLR.out (CK.below HBX.out)) rfl ⟨V.heap.size, 0, none⟩ 1 (.int .u64 (sOr b.inn s : Nat)) rfl (by rw [cell_of_row _ _ _ _ _ _ KX.out]; rfl) rfl rfl (by omega) (by omega) ?_
      intro v' X2 hown2 hb2
      have hown3 : X2.ownsRow 0 38 1 v' (l ++ [sOr b.inn s]).length (natsV (l ++ [sOr b.inn s])) := by
        rw [List.length_append, ← natsV_append]; exact hown2
      have HOW := Lib.hid hown3; have HB2 := Lib.hid (HBX.out.trans (hb2.mono HBX.out.size))
      have z2 := hb2.size
      obtain ⟨xa, xc, rfl⟩ := own_form hown2
      refine hK.out _ _ ((hb2.cell (p := ⟨w.heap.size, 0, none⟩) (by show w.heap.size < X1.heap.size; omega)).trans hHeld) (fun hHeld => ?_)
      clear hK K
      try simp only [Act.put, List.setIfInBounds_toArray, List.set_cons_zero, List.set_cons_succ]
      clear hown2 hown3 hb2
      have hko2 := HOR.out.below HB2.out
      have hll2 : (l ++ [sOr b.inn s]).length ≤ p.bounds.length := by simp; omega
      have hul2 : ∀ y ∈ l ++ [sOr b.inn s], y < 4096 := fun y hy => by
        rcases List.mem_append.1 hy with h | h
        · exact HUL.out y h
        · rw [List.mem_singleton.1 h]; exact HSX.out
      have hi := HIH.out (l ++ [sOr b.inn s]) (.slice xa (l.length + 1) xc) ss' X2 (by rw [List.length_append]; exact HDROP.out) hll2 hul2 hs1 (HWR.out.below hBb HB2.out) HOW.out hko2
      have hstep := HFOLD.out
      rw [waysQ_step l b.inn more bs s, foldW_append (heldAll p) (m : Int) _ (waysP (l ++ [sOr b.inn s]) bs) ss'] at hstep
      have hfq := foldW_few (g := heldAll p) (m := (m : Int)) (waysP (l ++ [sOr b.inn s]) bs) ss' (by omega)
      obtain ⟨q, hq⟩ : ∃ q, q = foldW (heldAll p) m (waysP (l ++ [sOr b.inn s]) bs) ss' := ⟨_, rfl⟩
      rw [← hq] at hi hstep hfq
      have hall : ∀ X3, KeptT 35 (One qo) base X2 X3 → X3.heap[w.heap.size]? = some (.cells #[.int .u64 (b.inn : Nat), .int .u64 (b.can : Nat)] 47 (0, 0)) ∧ WayAt p m (.slice (some ⟨gb, go, none⟩) p.bounds.length bc) rv qp qm B base X3 ∧ X3.ownsRow 0 38 1 (.slice la l.length lc) l.length (natsV l) ∧ KeptT 35 (One qo) base w X3 := fun X3 hk3 => by
        obtain ⟨ov2, hk2, _⟩ := hko2
        have hkx2 := heap_later HKX.out HB2.out zr
        refine ⟨hk3.same _ _ hkx2 (fun hh => ?_) (.inr (nT (by decide))), (HWR.out.below hBb HB2.out).kept hk2 hBo hBb hk3, own_keptT (own_ck HLR.out (CK.below HB2.out)) hk2 hk3, (HKR.out.below HB2.out).trans hk3⟩
        unfold One at hh
        rw [hh] at hkx2
        rw [hk2] at hkx2
        simp only [Option.some.injEq, Obj.cells.injEq] at hkx2
        exact absurd hkx2.2.1 (by decide)
      have HI := Lib.hid hi; have HALL := Lib.hid hall; have HFQ := Lib.hid hfq
      clear hko2 hll2 hul2 hi hfq hall HKX HWR HLR HOR HKR KX HBX HB2 HOW HUL HDROP HIH HFOLD j0 jin jz0 jz1 jz2
      cases hq1 : q.1
      case true =>
        have HRES : Hid (foldW (heldAll p) m (waysQ l b.inn (sDiff b.can b.inn) bs (sDiff b.can b.inn)) ss = foldW (heldAll p) m (if s = 0 then [] else waysQ l b.inn more bs (sAnd (s - 1) more)) q.2) := Lib.hid (by rw [hstep, hq1]; rfl)
        have hq2 : q.2.length < m := by have := HFQ.out hq1; omega
        rw [hq1] at HI
        clear hstep hq1 HFQ hq
        refine wpAnyH_ready (rs := [14]) (by kernel_rfl) (by simp) ?_
        refine AllReadyH.cons (o := { dst := some 47, op := Op.call { callee := Callee.value (Operand.func 25), args := #[Operand.tmp 33, Operand.tmp 45, Operand.tmp 46], argTypes := #[22, 35, 66] }, type := 4, pos := "outright.go:192", after := #[{ on := 0, ground := Ground.data }, { on := 12, ground := Ground.data }, { on := 13, ground := Ground.data }, { on := 12, ground := Ground.chain }], guard := none }) rfl (fun K hK => ?_) AllReadyH.nil
        go_simp
        refine HI.out.mono ?_
        rintro e1 X3 ⟨rfl, ho3, hk3⟩
        obtain ⟨hkx3, hw3, hl3, hkw3⟩ := HALL.out X3 hk3
        go_wp2_with fail
        refine hK.out _ _ (by rw [cell_of_row _ _ _ _ _ _ hkx3]; rfl) (fun hHeld => ?_)
        clear hK K
        try simp only [Act.put, List.setIfInBounds_toArray, List.set_cons_zero, List.set_cons_succ]
        have HO3 := Lib.hid ho3; have HKX3 := Lib.hid hkx3; have HW3 := Lib.hid hw3; have HL3 := Lib.hid hl3; have HKW3 := Lib.hid hkw3
        clear ho3 hk3 hkx3 hw3 hl3 hkw3 HALL HI
        refine wpAnyH_take (i := 15) (oi := { dst := some 48, op := Op.unOp UnOp.not 4 (Operand.tmp 47), type := 4, pos := "outright.go:192", after := #[{ on := 14, ground := Ground.data }], guard := none }) (v := ?_) rfl (by kernel_rfl) (by kernel_rfl) (by kernel_rfl) (fun _ _ _ h => h) (Or.inl ⟨by kernel_rfl, ?_⟩) hHeld ?_
        rotate_left
        · intro w hSw
          try dsimp only at hSw
          go_simp
          try with_reducible rfl
        try simp only [Act.put, List.setIfInBounds_toArray, List.set_cons_zero, List.set_cons_succ]
        refine wpAnyH_done (by kernel_rfl) ?_ _
        clear hHeld
        by_cases hs0 : s = 0
        · subst hs0
          go_wp2
          go_ret
          rw [HRES.out]
          exact ⟨rfl, HO3.out, HKW3.out⟩
        · have h0 : (s == 0) = false := by simpa using hs0
          have h5 : IntKind.u64.wrap ((s : Int) - 1) = ((s - 1 : Nat) : Int) := by
            rw [IntWalk.u64_in _ (by unfold U64 at hsu; omega)]; omega
          have hpu : U64 (s - 1) := by unfold U64 at hsu ⊢; omega
          have hlt2 := sAnd_pred (m := more) hs0
          have HRES2 := HRES.out
          rw [if_neg hs0] at HRES2
          have HR2 := Lib.hid HRES2
          have HLT2 := Lib.hid hlt2
          clear HRES HRES2 hs0 hlt2
          go_wp2
          go_roundw
          case rel =>
            exact ⟨sAnd (s - 1) more, q.2, by go_num, sAnd_self2 _ _, sAnd_lt hm12, hq2, HR2.out, HKX3.out, HW3.out, HL3.out, HO3.out, HKW3.out⟩
          case measure => have := HLT2.out; simp [intOf]; omega
      case false =>
        have HRES : Hid (foldW (heldAll p) m (waysQ l b.inn (sDiff b.can b.inn) bs (sDiff b.can b.inn)) ss = q) := Lib.hid (by rw [hstep, hq1]; rfl)
        have HQ1 := Lib.hid hq1
        rw [hq1] at HI
        clear hstep hq1 HFQ hq
        refine wpAnyH_ready (rs := [14]) (by kernel_rfl) (by simp) ?_
        refine AllReadyH.cons (o := { dst := some 47, op := Op.call { callee := Callee.value (Operand.func 25), args := #[Operand.tmp 33, Operand.tmp 45, Operand.tmp 46], argTypes := #[22, 35, 66] }, type := 4, pos := "outright.go:192", after := #[{ on := 0, ground := Ground.data }, { on := 12, ground := Ground.data }, { on := 13, ground := Ground.data }, { on := 12, ground := Ground.chain }], guard := none }) rfl (fun K hK => ?_) AllReadyH.nil
        go_simp
        refine HI.out.mono ?_
        rintro e1 X3 ⟨rfl, ho3, hk3⟩
        obtain ⟨hkx3, hw3, hl3, hkw3⟩ := HALL.out X3 hk3
        go_wp2_with fail
        refine hK.out _ _ (by rw [cell_of_row _ _ _ _ _ _ hkx3]; rfl) (fun hHeld => ?_)
        clear hK K
        try simp only [Act.put, List.setIfInBounds_toArray, List.set_cons_zero, List.set_cons_succ]
        have HO3 := Lib.hid ho3; have HKW3 := Lib.hid hkw3
        clear ho3 hk3 hkx3 hw3 hl3 hkw3 HALL HI
        refine wpAnyH_take (i := 15) (oi := { dst := some 48, op := Op.unOp UnOp.not 4 (Operand.tmp 47), type := 4, pos := "outright.go:192", after := #[{ on := 14, ground := Ground.data }], guard := none }) (v := ?_) rfl (by kernel_rfl) (by kernel_rfl) (by kernel_rfl) (fun _ _ _ h => h) (Or.inl ⟨by kernel_rfl, ?_⟩) hHeld ?_
        rotate_left
        · intro w hSw
          try dsimp only at hSw
          go_simp
          try with_reducible rfl
        try simp only [Act.put, List.setIfInBounds_toArray, List.set_cons_zero, List.set_cons_succ]
        refine wpAnyH_done (by kernel_rfl) ?_ _
        clear hHeld
        go_wp2
        go_ret
        rw [HRES.out, HQ1.out]
        exact ⟨rfl, HO3.out, HKW3.out⟩
end Go.Proofs.YtilbbnjfaoldoaaGreatDoor
