/- The search of package domain, in plain Lean. No program in sight. · Package domain: how many values a domain has; the variable that is chosen. · Memory of the search. · Package domain: what Solve and Best are told. -/
import Derived.Test.YtdmmegmkdhinjaaGreatDoorBF
import Derived.Test.YtdmmegmkdhinjaaGreatDoorBG
import Derived.Test.YtdmmegmkdhinjaaGreatDoorBH
import Derived.OwnWalkIn
namespace Go.Proofs.YtdmmegmkdhinjaaGreatDoor
open Go Go.RowKit

/-- A search: the nodes, whether there are too many, what was told. -/
structure Sx (σ : Type) where
  nodes : Nat
  opn : Bool
  got : σ
def goD {τ : Type} (step : Nat → τ → Bool × τ) : List Nat → τ → Bool × τ
  | [], s => (true, s)
  | v :: vs, s => if (step v s).1 then goD step vs (step v s).2 else (false, (step v s).2)
def nodeD {σ : Type} (p : Dp) (fnd : σ → List Int → Bool × σ) : Nat → List Nat → Sx σ → Bool × Sx σ
  | 0, _, s => (false, s)
  | k + 1, f, s =>
    if s.nodes = 2000 then (false, { s with opn := true })
    else
      let g := (runD p false f).1
      let s1 : Sx σ := { s with nodes := s.nodes + 1 }
      if (g.take p.doms.length).contains 0 then (true, s1)
      else if labelD p.doms.length g < 0 then ((fnd s.got (solD p.doms.length g)).1, { s1 with got := (fnd s.got (solD p.doms.length g)).2 })
      else goD (fun v s => nodeD p fnd k (g.set (labelD p.doms.length g).toNat (bitN v)) s) (elems (nget g (labelD p.doms.length g).toNat)) s1
def searchD {σ : Type} (p : Dp) (fnd : σ → List Int → Bool × σ) (s0 : σ) : Sx σ := (nodeD p fnd (totalD (padD p.doms) + 1) (padD p.doms) ⟨0, false, s0⟩).2
/-- What Solve is told, and what Best is. -/
def solveF (most : Int) (out : List (List Int)) (l : List Int) : Bool × List (List Int) := (decide (((out.length + 1 : Nat) : Int) < most), out ++ [l])
def bestF (v : Nat) (out : Option (List Int)) (l : List Int) : Bool × Option (List Int) := (true, match out with | none => some l | some o => if iget l v < iget o v then some l else some o)

theorem goD_ind {τ : Type} {Q : τ → Prop} {step : Nat → τ → Bool × τ} : ∀ (vs : List Nat) (s : τ), Q s → (∀ v ∈ vs, ∀ s, Q s → Q (step v s).2) → Q (goD step vs s).2
  | [], _, h, _ => h
  | v :: vs, s, h, hs => by
    unfold goD
    split
    · exact goD_ind vs _ (hs v (by simp) s h) fun u hu => hs u (by simp [hu])
    · exact hs v (by simp) s h
theorem goD_append {τ : Type} {step : Nat → τ → Bool × τ} : ∀ (pre rest : List Nat) (s : τ), goD step (pre ++ rest) s = if (goD step pre s).1 then goD step rest (goD step pre s).2 else goD step pre s
  | [], rest, s => rfl
  | v :: vs, rest, s => by
    have ih := goD_append (step := step) vs rest (step v s).2
    show (if (step v s).1 = true then goD step (vs ++ rest) (step v s).2 else (false, (step v s).2)) = if (if (step v s).1 = true then goD step vs (step v s).2 else (false, (step v s).2)).1 = true then goD step rest (if (step v s).1 = true then goD step vs (step v s).2 else (false, (step v s).2)).2 else (if (step v s).1 = true then goD step vs (step v s).2 else (false, (step v s).2))
    cases (step v s).1
    · rfl
    · simpa using ih
theorem nodeD_succ {σ : Type} (p : Dp) (fnd : σ → List Int → Bool × σ) (k : Nat) (f : List Nat) (s : Sx σ) : nodeD p fnd (k + 1) f s =
    if s.nodes = 2000 then (false, { s with opn := true })
    else
      if ((runD p false f).1.take p.doms.length).contains 0 then (true, { s with nodes := s.nodes + 1 })
      else if labelD p.doms.length (runD p false f).1 < 0 then ((fnd s.got (solD p.doms.length (runD p false f).1)).1, { s with nodes := s.nodes + 1, got := (fnd s.got (solD p.doms.length (runD p false f).1)).2 })
      else goD (fun v s => nodeD p fnd k ((runD p false f).1.set (labelD p.doms.length (runD p false f).1).toNat (bitN v)) s) (elems (nget (runD p false f).1 (labelD p.doms.length (runD p false f).1).toNat)) { s with nodes := s.nodes + 1 } := rfl
theorem nodeD_le {σ : Type} (p : Dp) (fnd : σ → List Int → Bool × σ) : ∀ (k : Nat) (f : List Nat) (s : Sx σ), s.nodes ≤ 2000 → (nodeD p fnd k f s).2.nodes ≤ 2000
  | 0, _, _, h => h
  | k + 1, f, s, h => by
    unfold nodeD
    split
    · exact h
    · have h1 : s.nodes + 1 ≤ 2000 := by omega
      dsimp only
      split
      · exact h1
      · split
        · exact h1
        · exact goD_ind (Q := fun s : Sx σ => s.nodes ≤ 2000) _ _ h1 fun v _ s hs => nodeD_le p fnd k _ s hs
theorem label_succ (n : Nat) (g : List Nat) : labelD (n + 1) g = if 2 ≤ sizeD (nget g n) ∧ (labelD n g < 0 ∨ sizeD (nget g n) < sizeD (nget g (labelD n g).toNat)) then (n : Int) else labelD n g := by
  unfold labelD
  rw [List.range_succ, List.foldl_append]
  rfl
theorem label_cases (g : List Nat) : ∀ n, (labelD n g = -1 ∧ ∀ i, i < n → sizeD (nget g i) < 2) ∨ ∃ k : Nat, labelD n g = k ∧ k < n ∧ 2 ≤ sizeD (nget g k)
  | 0 => .inl ⟨rfl, fun i hi => absurd hi (Nat.not_lt_zero _)⟩
  | n + 1 => by
    rw [label_succ]
    rcases label_cases g n with ⟨h, hall⟩ | ⟨k, h, hk, h2⟩
    · rw [h]
      by_cases hs : 2 ≤ sizeD (nget g n)
      · rw [if_pos ⟨hs, .inl (by omega)⟩]
        exact .inr ⟨n, rfl, Nat.lt_succ_self _, hs⟩
      · rw [if_neg (fun hc => hs hc.1)]
        refine .inl ⟨rfl, fun i hi => ?_⟩
        by_cases e : i = n
        · subst e; omega
        · exact hall i (by omega)
    · rw [h]
      split
      · rename_i hc; exact .inr ⟨n, rfl, Nat.lt_succ_self _, hc.1⟩
      · exact .inr ⟨k, rfl, by omega, h2⟩
theorem sizeD_zero : sizeD 0 = 0 := by unfold sizeD; rw [elems_zero]; rfl
theorem sizeD_bit {v : Nat} (h : v < 64) : sizeD (bitN v) = 1 := by
  have hm : v ∈ elems (bitN v) := mem_elems.2 ⟨h, by rw [bitN_testBit]; simp⟩
  have h1 := size_diff hm
  have h0 : sDiff (bitN v) (bitN v) = 0 := by
    apply Nat.eq_of_testBit_eq
    intro i
    rw [diff_bit, bitN_testBit, Nat.zero_testBit]
    by_cases hv : v = i <;> simp [hv]
  rw [h0, sizeD_zero] at h1
  omega
theorem size_pos {d : Nat} (h : d < 65536) (h0 : d ≠ 0) : 0 < sizeD d := by
  unfold sizeD
  rw [elems_step h0 (Nat.lt_trans h (by decide))]
  simp
/-- A run makes domains no larger. -/
theorem rounds_total {p : Dp} {rs : Bool} (h : probD p = true) : ∀ (k : Nat) {st : Sd}, Good st → totalD (roundsD p rs k st).1 ≤ totalD st.1
  | 0, _, _ => Nat.le_refl _
  | k + 1, st, hg => by
    have hr := rules_good (p := p) (rs := rs) (probD_varsIn h) (List.range p.rules.length) (fun n hn => List.mem_range.1 hn) hg
    have hle : totalD (rulesD p rs (List.range p.rules.length) st).1.1 ≤ totalD st.1 := by
      rcases hr.2 with e | e
      · rw [e]; exact Nat.le_refl _
      · omega
    unfold roundsD
    dsimp only
    split
    · split
      · exact hle
      · exact Nat.le_trans (rounds_total h k hr.1) hle
    · exact hle
theorem run_total {p : Dp} {rs : Bool} (h : probD p = true) {f : List Nat} (hf : Fok f) : totalD (runD p rs f).1 ≤ totalD f := by
  unfold runD
  split
  · exact Nat.le_refl _
  · exact rounds_total h _ (Good.start hf)
theorem Fok.child {g : List Nat} (hg : Fok g) (k : Nat) {x : Nat} (hx : x < 16) : Fok (g.set k (bitN x)) := ⟨by rw [List.length_set]; exact hg.len, fun i => by
  rw [nget_set]
  split
  · exact bit16 hx
  · exact hg.lt i⟩
theorem total_child {g : List Nat} (hg : Fok g) {k x : Nat} (hk : k < 8) (h2 : 2 ≤ sizeD (nget g k)) (hx : x < 16) : totalD (g.set k (bitN x)) < totalD g := by
  have h := total_set g k (bitN x) (by rw [hg.len]; exact hk)
  rw [sizeD_bit (by omega)] at h
  omega
theorem solD_succ (i : Nat) (g : List Nat) : solD (i + 1) g = solD i g ++ (elems (nget g i)).map natI := by
  unfold solD
  rw [List.range_succ, List.flatMap_append]
  simp
theorem solD_le {g : List Nat} (hg : Fok g) : ∀ i, (solD i g).length ≤ 16 * i
  | 0 => by simp [solD]
  | i + 1 => by
    rw [solD_succ, List.length_append, List.length_map]
    have h1 := solD_le hg i
    have h2 : sizeD (nget g i) ≤ 16 := size16 (hg.lt i)
    unfold sizeD at h2
    omega
theorem solD_length {g : List Nat} (hg : Fok g) {n : Nat} (h0 : (g.take n).contains 0 = false) (hn : n ≤ 8) (hl : ∀ i, i < n → sizeD (nget g i) < 2) : ∀ i, i ≤ n → (solD i g).length = i
  | 0, _ => by simp [solD]
  | i + 1, hi => by
    rw [solD_succ, List.length_append, List.length_map, solD_length hg h0 hn hl i (by omega)]
    have h1 := hl i (by omega)
    have hne : nget g i ≠ 0 := fun e => by
      rw [List.contains_eq_mem, decide_eq_false_iff_not] at h0
      apply h0
      have hil : i < (g.take n).length := by rw [List.length_take, hg.len]; omega
      rw [← e, ← nget_take (show i < n by omega)]
      unfold nget
      rw [List.getElem?_eq_getElem hil, Option.getD_some]
      exact List.getElem_mem _
    have h2 := size_pos (hg.lt i) hne
    unfold sizeD at h1 h2
    omega
end Go.Proofs.YtdmmegmkdhinjaaGreatDoor

namespace Go.Proofs.YtdmmegmkdhinjaaGreatDoor
open Go Go.RowKit
attribute [local go_sem] cell_grow u64_sAnd u64_sOr u64_sDiff sDiff_all zeqI zneI sAnd_bit_zero sAnd_bit_zeroN sAnd_bit_nonzero Oper.semAt_some wide_fn wide_depth

theorem Frm2.put {Bs mb : Nat} {W0 V : World} (h : Frm2 Bs mb W0 V) (o : Nat) (v : Value) : Frm2 Bs mb W0 (V.setCell ⟨mb, o, none⟩ v) := h.step ((Frm.refl mb V).setSelf o v)
set_option maxRecDepth 100000 in
set_option maxHeartbeats 2000000 in
theorem bitsOf_any (d : Nat) (hd : d < 65536) (w : World) (hT : Tab w) (h0 : 0 < w.heap.size) : Gives Tryz.prog 126 #[.int .u64 (d : Nat)] w (.int .i64 (sizeD d : Nat)) := by
  unfold Gives
  have h16 := size16 hd
  have HT := Lib.hid hT
  clear hT
  refine callsIn_wide.1 (callsIn_of_wp_marks (n := 0) Tryz.func126 rfl trivial (wpIn_wide.2 ?_) rfl)
  simp only [Tryz.ntmps126, List.size_toArray, List.length_cons, List.length_nil, Nat.reduceAdd, Nat.reduceSub, Array.replicate_succ, Array.replicate_zero, List.push_toArray, List.append_toArray, List.nil_append, List.cons_append]
  go_wp2_with fail
  refine (values_any d _).mono ?_
  rintro e w5 ⟨rfl, hw5⟩
  have hk := heap_new2 w (.cells #[.int .i64 0] 3) (.cells #[.int .u64 (d : Nat)] 56)
  have hbn := Below.new2 w (.cells #[.int .i64 0] 3) (.cells #[.int .u64 (d : Nat)] 56)
  have hs5 : ((w.alloc (.cells #[.int .i64 0] 3)).alloc (.cells #[.int .u64 (d : Nat)] 56)).heap.size = w.heap.size + 2 := by simp
  have hss : (w.alloc (.cells #[.int .i64 0] 3)).heap.size = w.heap.size + 1 := by simp
  rw [hss]
  have hw6 : (w.alloc (.cells #[.int .i64 0] 3)).alloc (.cells #[.int .u64 (d : Nat)] 56) = w5 := hw5
  rw [hw6] at hk hbn hs5
  have HK := Lib.hid hk; have HBN := Lib.hid hbn
  clear hk hbn hw5 hw6 hss
  go_wp2_with fail
  refine wpIn_wide.1 (rangeElems (n := 0) (w.heap.size + 1) d rfl (Nat.lt_trans hd (by decide)) HK.out.2 (by show w.heap.size + 1 ≠ 0; omega)
    (fun pre Z => Frm2 (w.heap.size + 1) w.heap.size w5 Z ∧ Z.heap[w.heap.size]? = some (.cells #[.int .i64 (pre.length : Nat)] 3 (0, 0)))
    (fun _ _ _ => False) (fun pre Z Z' h ht => ⟨h.1.touched ht, ht.same _ _ h.2 (by omega) (.inl (by omega))⟩) (fun _ _ _ _ h _ => h) (fun pre Z h => HT.out.below (h.1.below HBN.out (by omega) (by omega) (by omega)) h0) ⟨Frm2.refl _ _ _, HK.out.1⟩ ?round ?done (fun _ _ _ _ _ h _ => h.elim))
  case round =>
    intro lp pre x rest Z hel
    gi_wp2
    refine ⟨trivial, ?_⟩
    rintro V2 ⟨hfrm, hkq⟩ hBs0 hL2
    have hlen : pre.length < sizeD d := by unfold sizeD; rw [hel]; simp
    have c0 : V2.cell? ⟨w.heap.size, 0, none⟩ = some (.int .i64 (pre.length : Nat)) := by rw [cell_of_row _ _ _ _ _ _ hkq]; rfl
    have fe : V2.frozen? ⟨w.heap.size, 0, none⟩ = false := by simp [World.frozen?, hkq]
    have HF := Lib.hid hfrm; have HKQ := Lib.hid hkq
    clear hfrm hkq hel hBs0
    gi_wp2
    refine ⟨(Keep.refl _ _ _).setCell (by show w.heap.size ≠ w.heap.size + 1; omega) _, HF.out.put _ _, ?_⟩
    rw [set_row HKQ.out]
    simp
  case done =>
    rintro D Z hDw ⟨hfrm, hkq⟩ hDm
    have c0 : Z.cell? ⟨w.heap.size, 0, none⟩ = some (.int .i64 (sizeD d : Nat)) := by rw [cell_of_row _ _ _ _ _ _ hkq]; rfl
    have HF := Lib.hid hfrm; have HDm := Lib.hid hDm
    clear hfrm hkq hDm
    go_wp2_with fail
    exact bodyM_ret1 D HDm.out (results_tmp (t := 2) rfl _ _ _) rfl ⟨rfl, below_putObj (HF.out.below HBN.out (by omega) (by omega) (by omega)) (by omega) _⟩
set_option maxRecDepth 100000 in
set_option maxHeartbeats 2000000 in
theorem label_any (p : Dp) (f : List Nat) (hf : Fok f) (hn8 : p.doms.length ≤ 8) (s : Nat) (da : Option Addr) (dc : Nat) (w : World) (hs : w.cell? ⟨s, 0, none⟩ = some (.slice da p.doms.length dc)) (hsl : s < w.heap.size) (hT : Tab w) (h0 : 0 < w.heap.size) :
    Gives Tryz.prog 89 #[.pointer (some ⟨s, 0, none⟩), fieldV f] w (.int .i64 (labelD p.doms.length f)) := by
  unfold Gives fieldV
  have h8 := hf.len
  have HT := Lib.hid hT; have HF := Lib.hid hf
  have hk0 := heap_new0 w (.cells (natsV f).toArray 77)
  have hb0 := Below.new1 w (.cells (natsV f).toArray 77)
  have q0 := (hb0.cell (p := ⟨s, 0, none⟩) hsl).trans hs
  have hfn : ∀ i, i < 8 → ∀ W : World, W.heap[w.heap.size]? = some (.cells (natsV f).toArray 77 (0, 0)) → W.cell? ⟨w.heap.size, i, none⟩ = some (.int .u64 (nget f i : Nat)) := fun i hi W h => by
    rw [cell_of_row _ _ _ _ _ _ h, List.getElem?_toArray, natsV_get f i (by rw [HF.out.len]; omega)]
  have HK0 := Lib.hid hk0; have HB0 := Lib.hid hb0; have HFN := Lib.hid hfn
  clear hf hT hs hk0 hb0 hfn
  go_enter Tryz.func89, Tryz.ntmps89
  go_wp2_with fail
  refine abs_wp (fun W => W.heap[w.heap.size]? = some (.cells (natsV f).toArray 77 (0, 0)) ∧ Below w.heap.size w W) ⟨HK0.out, HB0.out⟩ ?_
  rintro W ⟨k0, hb⟩
  have HKW := Lib.hid k0; have HBW := Lib.hid hb
  clear k0 hb q0 HK0 HB0
  go_loopw [5, 6, 7, 14] (fun ov uv bv iv wr => ∃ i : Nat, i ≤ p.doms.length ∧ iv = .int .i64 i ∧ ov = .int .i64 (labelD i f) ∧ wr.heap[w.heap.size]? = some (.cells (natsV f).toArray 77 (0, 0)) ∧ Below w.heap.size w wr) (fun _ _ _ iv _ => p.doms.length - (intOf iv).toNat)
  case atStart => exact ⟨0, Nat.zero_le _, rfl, rfl, HKW.out, HBW.out⟩
  case round =>
    obtain ⟨i, hi, rfl, rfl, hkr, hbr⟩ := hrel
    have HKR := Lib.hid hkr; have HBR := Lib.hid hbr
    clear hkr hbr HKW HBW
    have hTr : ∀ Y : World, Below w.heap.size w Y → Tab Y ∧ 0 < Y.heap.size := fun Y hY => ⟨HT.out.below hY h0, by have := hY.size; omega⟩
    have HTR := Lib.hid hTr
    clear hTr
    by_cases hlt : i < p.doms.length
    · have c0 := HFN.out i (by omega) wr HKR.out
      have hzi : w.heap.size < wr.heap.size := (Array.getElem?_eq_some_iff.1 HKR.out).1
      have HB1 := Lib.hid (bitsOf_any (nget f i) (HF.out.lt i) wr (HTR.out _ HBR.out).1 (HTR.out _ HBR.out).2)
      have h16 := size16 (HF.out.lt i)
      have hls := label_succ i f
      go_wp2_with fail
      refine HB1.out.mono ?_
      rintro e w2 ⟨rfl, hb2⟩
      have HK2 := Lib.hid (heap_later HKR.out hb2 hzi); have HB2 := Lib.hid (HBR.out.trans (hb2.mono HBR.out.size))
      clear hb2 c0 HB1
      by_cases hs2 : 2 ≤ sizeD (nget f i)
      · rcases label_cases f i with ⟨hl, -⟩ | ⟨k, hl, hk, -⟩
        · have HLS : Hid (labelD (i + 1) f = i) := Lib.hid (by rw [hls, if_pos ⟨hs2, .inl (by omega)⟩])
          rw [hl]
          have hsI : (2 : Int) ≤ ((sizeD (nget f i) : Nat) : Int) := by omega
          clear hls hl
          go_wp2
          go_roundw
          case rel => exact ⟨i + 1, by omega, by go_num, by rw [HLS.out], HK2.out, HB2.out⟩
          case measure => simp [intOf]; omega
        · rw [hl] at hls ⊢
          have ck := HFN.out k (by omega) w2 HK2.out
          have hz2 : w.heap.size < w2.heap.size := (Array.getElem?_eq_some_iff.1 HK2.out).1
          have HB3 := Lib.hid (bitsOf_any (nget f k) (HF.out.lt k) w2 (HTR.out _ HB2.out).1 (HTR.out _ HB2.out).2)
          have h16k := size16 (HF.out.lt k)
          have hsI : (2 : Int) ≤ ((sizeD (nget f i) : Nat) : Int) := by omega
          have hkI : (k : Int) < 8 := by omega
          go_wp2_with fail
          refine HB3.out.mono ?_
          rintro e w3 ⟨rfl, hb3⟩
          have HK3 := Lib.hid (heap_later HK2.out hb3 hz2); have HB4 := Lib.hid (HB2.out.trans (hb3.mono HB2.out.size))
          clear hb3 ck HB3
          rw [Int.toNat_natCast] at hls
          by_cases hsz : sizeD (nget f i) < sizeD (nget f k)
          · have HLS : Hid (labelD (i + 1) f = i) := Lib.hid (by rw [hls, if_pos ⟨hs2, .inr hsz⟩])
            have hzI : ((sizeD (nget f i) : Nat) : Int) < ((sizeD (nget f k) : Nat) : Int) := by omega
            clear hls
            go_wp2
            go_roundw
            case rel => exact ⟨i + 1, by omega, by go_num, by rw [HLS.out], HK3.out, HB4.out⟩
            case measure => simp [intOf]; omega
          · have HLS : Hid (labelD (i + 1) f = k) := Lib.hid (by rw [hls, if_neg (fun h => by rcases h.2 with h | h; omega; exact hsz h)])
            have hzI : ¬ ((sizeD (nget f i) : Nat) : Int) < ((sizeD (nget f k) : Nat) : Int) := by omega
            clear hls
            go_wp2
            go_roundw
            case rel => exact ⟨i + 1, by omega, by go_num, by rw [HLS.out], HK3.out, HB4.out⟩
            case measure => simp [intOf]; omega
      · have HLS : Hid (labelD (i + 1) f = labelD i f) := Lib.hid (by rw [hls, if_neg (fun h => hs2 h.1)])
        have hsI : ¬ (2 : Int) ≤ ((sizeD (nget f i) : Nat) : Int) := by omega
        clear hls
        go_wp2
        go_roundw
        case rel => exact ⟨i + 1, by omega, by go_num, by rw [HLS.out], HK2.out, HB2.out⟩
        case measure => simp [intOf]; omega
    · have hin : i = p.doms.length := by omega
      subst hin
      go_wp2
      go_ret
      exact ⟨rfl, HBR.out⟩
end Go.Proofs.YtdmmegmkdhinjaaGreatDoor

namespace Go
/-- Derived/Deep/MidRow.lean's two laws inside a fence. -/
theorem wpListIn_load_mid {F : Fence} {n : Nat} {P : Program} {ops : Array Oper} {rest : List Oper} {op : Oper} {a : Act} {w : World} {Q : Exit → Act → World → Prop} (hgd : op.guard = none) (ty : TypeId) (x : Operand) (ho : op.op = .load ty x)
    (b o : Nat) (hx : a.eval x = .pointer (some ⟨b, o, none⟩)) (cs : List Value) (d : TypeDesc) (hc : w.rangeAt b o cs)
    (hu : P.underlying ty = some d) (hd : d.isRow = true) (hi : (P.info? ty).map (·.size) = some cs.length)
    (h : wpListIn F n P ops Q rest (a.put op.dst (.agg cs.toArray)) w) : wpListIn F n P ops Q (op :: rest) a w := by
  refine wpListIn_plain hgd fun K hK => ?_
  unfold Oper.wpIn
  refine ⟨by simp [Oper.about, ho], ?_⟩
  rw [Oper.semAt_plain F _ _ (by rw [ho]; intro c hc'; cases hc')]
  unfold execOp
  simp only [ho, hx, Instr.loadAt, Instr.sureAddr, Sem.run_bind, Sem.run_pure, Result.andThen_ok, run_loadVar_mid w b o ty cs d hc hu hd hi]
  exact hK _ _ h
theorem wpListIn_store_mid {F : Fence} {n : Nat} {P : Program} {ops : Array Oper} {rest : List Oper} {op : Oper} {a : Act} {w : World} {Q : Exit → Act → World → Prop} (hgd : op.guard = none) (ty : TypeId) (x y : Operand) (ho : op.op = .store ty x y)
    (b o : Nat) (cells : Array Value) (hx : a.eval x = .pointer (some ⟨b, o, none⟩)) (hy : a.eval y = .agg cells)
    (ht : w.there b o cells.size) (hi : (P.info? ty).map (·.size) = some cells.size) (h1 : cells.all (·.oneCell') = true)
    (h : wpListIn F n P ops Q rest (a.put op.dst undef) (w.setCells b o cells.toList)) : wpListIn F n P ops Q (op :: rest) a w := by
  refine wpListIn_plain hgd fun K hK => ?_
  unfold Oper.wpIn
  refine ⟨by simp [Oper.about, ho], ?_⟩
  rw [Oper.semAt_plain F _ _ (by rw [ho]; intro c hc'; cases hc')]
  unfold execOp
  simp only [ho, hx, hy, Instr.storeAt, Instr.sureAddr, Sem.run_bind, Sem.run_pure, Result.andThen_ok, run_storeVar_mid w b o ty cells ht hi h1]
  exact hK _ _ h
end Go
namespace Go.Proofs.YtdmmegmkdhinjaaGreatDoor
open Go Go.RowKit

/-- What a searcher's 'found' is: what it keeps, and what it answers. -/
structure Told {σ : Type} (n qo qm base : Nat) (F : FuncId) (fnd : σ → List Int → Bool × σ) (Inv : Nat → σ → World → Prop) : Prop where
  enters : ∀ args (w : World), (callFunc F args).run Tryz.prog w = .ok (.enter F args) w
  mono : ∀ m g w, Inv m g w → Inv (m + 1) g w
  kept : ∀ m g (w w' : World), Inv m g w → (∀ (k : Nat) (c : Array Value) (t : TypeId), t ≠ 56 → t ≠ 93 → t ≠ 4 → w.heap[k]? = some (.cells c t (0, 0)) → w'.heap[k]? = some (.cells c t (0, 0))) → Inv m g w'
  lt : ∀ m g (w : World), Inv m g w → qo < w.heap.size
  call : ∀ m g (w : World) (l : List Int) (lv : Value) (b : Nat), m < 2000 → Inv m g w → base ≤ b → w.ownsRow b 3 1 lv l.length (intsV l) → l.length = n → base ≤ w.heap.size →
    Calls Tryz.prog F #[lv, .pointer (some ⟨qo, 0, none⟩), .pointer (some ⟨qm, 0, none⟩)] w fun e w' => e = .returned (.bool (fnd g l).1) ∧ Inv (m + 1) (fnd g l).2 w' ∧ KeptT 39 (One qo) base w w'
def foundV (F : FuncId) (qo qm : Nat) : Value := .func (.func F) #[] #[.pointer (some ⟨qo, 0, none⟩), .pointer (some ⟨qm, 0, none⟩)]
/-- Where a search stands. -/
structure SNow {σ : Type} (p : Dp) (dv rv fv : Value) (s B base : Nat) (Inv : Nat → σ → World → Prop) (st : Sx σ) (w : World) : Prop where
  doms : Us w B dv p.doms
  rls : DRls w B rv p.rules
  tab : Tab w
  blk : w.heap[s]? = some (.cells #[dv, rv, .int .i64 (st.nodes : Nat), fv, .bool st.opn] 93 (0, 0))
  inv : Inv st.nodes st.got w
  base : base ≤ w.heap.size
/-- What the proof of a search knows of its blocks. -/
structure SFix (s qo B base : Nat) : Prop where
  pos : 0 < B
  leb : B ≤ base
  les : B ≤ s
  leo : B ≤ qo
  ne : s ≠ qo
section
variable {σ : Type} {p : Dp} {dv rv fv : Value} {s qo qm B base n : Nat} {F : FuncId} {fnd : σ → List Int → Bool × σ} {Inv : Nat → σ → World → Prop} {st st' : Sx σ} {w w' W : World}
theorem SFix.low (hx : SFix s qo B base) (hb : base ≤ w.heap.size) (hk : KeptT 39 (Two s qo) base w w') : Below B w w' :=
  hk.toBelow hx.leb (Nat.le_trans hx.leb hb) (fun q hq hh => by have := hx.les; have := hx.leo; rcases hh with hh | hh <;> omega)
theorem SNow.move (h : SNow p dv rv fv s B base Inv st w) (hx : SFix s qo B base) (hk : KeptT 39 (Two s qo) base w w') (hb : w'.heap[s]? = some (.cells #[dv, rv, .int .i64 (st'.nodes : Nat), fv, .bool st'.opn] 93 (0, 0))) (hi : Inv st'.nodes st'.got w') :
    SNow p dv rv fv s B base Inv st' w' :=
  have hlow := hx.low h.base hk
  ⟨h.doms.below hlow (Nat.le_refl _), h.rls.below hlow (Nat.le_refl _), h.tab.below hlow hx.pos, hb, hi, Nat.le_trans h.base hk.size⟩
theorem SNow.below (h : SNow p dv rv fv s B base Inv st w) (hx : SFix s qo B base) (ht : Told n qo qm base F fnd Inv) (hb : Below w.heap.size w w') : SNow p dv rv fv s B base Inv st w' :=
  h.move hx (KeptT.of_below hb) (heap_later h.blk hb (Array.getElem?_eq_some_iff.1 h.blk).1) (ht.kept _ _ _ _ h.inv fun k _ _ _ _ _ e => (hb.block k (Array.getElem?_eq_some_iff.1 e).1).trans e)
theorem KeptT.low {T : TypeId} {E : Nat → Prop} {a b c : World} (h : KeptT T E base a b) (hb : Below a.heap.size b c) : KeptT T E base a c :=
  ⟨hb.os.trans h.os, hb.tape.trans h.tape, hb.output.trans h.output, Nat.le_trans h.size hb.size, fun q o e hE hn => (hb.block q (Array.getElem?_eq_some_iff.1 e).1).trans (h.same q o e hE hn)⟩
/-- What a node leaves. -/
def NodeP (dv rv fv : Value) (s qo base : Nat) (Inv : Nat → σ → World → Prop) (r : Bool × Sx σ) (w : World) (e : Ending) (w' : World) : Prop :=
  e = .returned (.bool r.1) ∧ w'.heap[s]? = some (.cells #[dv, rv, .int .i64 (r.2.nodes : Nat), fv, .bool r.2.opn] 93 (0, 0)) ∧ Inv r.2.nodes r.2.got w' ∧ KeptT 39 (Two s qo) base w w'
theorem NodeP.fin {r : Bool × Sx σ} (h : SNow p dv rv fv s B base Inv r.2 W) (ht : Told n qo qm base F fnd Inv) (hk : KeptT 39 (Two s qo) base w W) (hb : Below w.heap.size W w') (hc : CK W w') : NodeP dv rv fv s qo base Inv r w (.returned (.bool r.1)) w' :=
  ⟨rfl, hc.same _ _ _ _ h.blk, ht.kept _ _ _ _ h.inv fun _ _ _ _ _ _ e => hc.same _ _ _ _ e, hk.low hb⟩
/-- Another number of nodes, or the sign that there are too many. -/
theorem SNow.setN (h : SNow p dv rv fv s B base Inv st w) (hx : SFix s qo B base) (ht : Told n qo qm base F fnd Inv) : SNow p dv rv fv s B base Inv { st with nodes := st.nodes + 1 } (w.setCell ⟨s, 2, none⟩ (.int .i64 ((st.nodes + 1 : Nat) : Int))) :=
  h.move hx ((KeptT.refl w).setCell (.inl rfl) _) (by rw [set_row h.blk]; rfl) (ht.mono _ _ _ (ht.kept _ _ _ _ h.inv fun k c t _ h2 _ e => (Below.heap_setCell _ _ _ _ (ne_of_types e h.blk h2)).trans e))
theorem SNow.setO (h : SNow p dv rv fv s B base Inv st w) (hx : SFix s qo B base) (ht : Told n qo qm base F fnd Inv) : SNow p dv rv fv s B base Inv { st with opn := true } (w.setCell ⟨s, 4, none⟩ (.bool true)) :=
  h.move hx ((KeptT.refl w).setCell (.inl rfl) _) (by rw [set_row h.blk]; rfl) (ht.kept _ _ _ _ h.inv fun k c t _ h2 _ e => (Below.heap_setCell _ _ _ _ (ne_of_types e h.blk h2)).trans e)
/-- A store into a block of a bool. -/
theorem SNow.setB (h : SNow p dv rv fv s B base Inv st w) (hx : SFix s qo B base) (ht : Told n qo qm base F fnd Inv) {b o : Nat} {c0 : Array Value} (hb : w.heap[b]? = some (.cells c0 4 (0, 0))) (hB : B ≤ b) (v : Value) : SNow p dv rv fv s B base Inv st (w.setCell ⟨b, o, none⟩ v) :=
  have hlow : Below B w (w.setCell ⟨b, o, none⟩ v) := (Below.refl B w).setCell (p := ⟨b, o, none⟩) hB v
  ⟨h.doms.below hlow (Nat.le_refl _), h.rls.below hlow (Nat.le_refl _), h.tab.below hlow hx.pos, (Below.heap_setCell _ _ _ _ (ne_of_types h.blk hb (by decide))).trans h.blk,
    ht.kept _ _ _ _ h.inv fun k c t _ _ h3 e => (Below.heap_setCell _ _ _ _ (ne_of_types e hb h3)).trans e, by simpa [World.setCell] using h.base⟩
/-- A block of an uint64 taken out, or turned. -/
theorem SNow.inv_hole (h : Inv st.nodes st.got w) (ht : Told n qo qm base F fnd Inv) {b : Nat} {c0 : Array Value} (hb : w.heap[b]? = some (.cells c0 56 (0, 0))) : Inv st.nodes st.got (hole b w) :=
  ht.kept _ _ _ _ h fun _ _ _ h1 _ _ e => (hole_other (ne_of_types e hb h1)).trans e
/-! while a node's children are gone through: Bs is the iterator's set -/
def Thr (a b c q : Nat) : Prop := q = a ∨ q = b ∨ q = c
def Fou (a b c d q : Nat) : Prop := q = a ∨ q = b ∨ q = c ∨ q = d
structure JN (dv rv fv : Value) (s base Bs : Nat) (E : Nat → Prop) (Inv : Nat → σ → World → Prop) (st : Sx σ) (w5 Z : World) : Prop where
  blk : Z.heap[s]? = some (.cells #[dv, rv, .int .i64 (st.nodes : Nat), fv, .bool st.opn] 93 (0, 0))
  inv : Inv st.nodes st.got (hole Bs Z)
  kp : KeptT 39 E base w5 Z
variable {Bs : Nat} {E : Nat → Prop} {w5 Z Z' V V' : World}
theorem JN.touched (h : JN dv rv fv s base Bs E Inv st w5 Z) (ht : Told n qo qm base F fnd Inv) (hE : E Bs) (hsl : s < w5.heap.size) (hsB : s ≠ Bs) (hto : Touched Bs w5.heap.size Z Z') : JN dv rv fv s base Bs E Inv st w5 Z' :=
  ⟨hto.same _ _ h.blk hsB (.inl hsl), ht.kept _ _ _ _ h.inv fun k c t _ _ _ e => (CK.touched hto).same k c t _ e,
    hto.os.trans h.kp.os, hto.tape.trans h.kp.tape, hto.output.trans h.kp.output, Nat.le_trans h.kp.size hto.size, fun q o e hE' hn =>
      hto.same q o (h.kp.same q o e hE' hn) (fun hh => hE' (hh ▸ hE)) (.inl (Array.getElem?_eq_some_iff.1 e).1)⟩
theorem JN.low (h : JN dv rv fv s base Bs E Inv st w5 Z) (hx : SFix s qo B base) (hb : base ≤ w5.heap.size) (hE : ∀ q, E q → B ≤ q) : Below B w5 Z :=
  h.kp.toBelow hx.leb (Nat.le_trans hx.leb hb) (fun q hq hh => by have := hE q hh; omega)
theorem JN.snow (h : JN dv rv fv s base Bs E Inv st w5 Z) (ht : Told n qo qm base F fnd Inv) (h0 : SNow p dv rv fv s B base Inv st' w5) (hx : SFix s qo B base) (hE : ∀ q, E q → B ≤ q) : SNow p dv rv fv s B base Inv st Z :=
  have hlow := h.low hx h0.base hE
  ⟨h0.doms.below hlow (Nat.le_refl _), h0.rls.below hlow (Nat.le_refl _), h0.tab.below hlow hx.pos, h.blk, ht.kept _ _ _ _ h.inv fun k c t _ _ _ e => (CK.fill Bs Z).same k c t _ e, Nat.le_trans h0.base h.kp.size⟩
theorem KeptT.thr {T : TypeId} (h : KeptT T (Two s qo) base w w5) (h' : KeptT T E base w5 Z) (hE : ∀ q, E q → Two s qo q ∨ w.heap.size ≤ q) : KeptT T (Two s qo) base w Z :=
  ⟨h'.os.trans h.os, h'.tape.trans h.tape, h'.output.trans h.output, Nat.le_trans h.size h'.size, fun q o e hE2 hn => h'.same q o (h.same q o e hE2 hn) (fun hh => by
    rcases hE q hh with hh | hh
    · exact hE2 hh
    · have := (Array.getElem?_eq_some_iff.1 e).1; omega) hn⟩
theorem JN.next (h : JN dv rv fv s base Bs E Inv st w5 V) (ht : Told n qo qm base F fnd Inv) (hE : ∀ q, Two s qo q → E q) (hk : KeptT 39 (Two s qo) base V V') (hb : V'.heap[s]? = some (.cells #[dv, rv, .int .i64 (st'.nodes : Nat), fv, .bool st'.opn] 93 (0, 0))) (hi : Inv st'.nodes st'.got V') (hu : U64At Bs V) (h1 : Bs ≠ s) (h2 : Bs ≠ qo) : JN dv rv fv s base Bs E Inv st' w5 V' := by
  obtain ⟨c, hc⟩ := hu
  have hc' := hk.same _ _ hc (two_no h1 h2) (.inr (nT (by decide)))
  exact ⟨hb, SNow.inv_hole hi ht hc', h.kp.trans (hk.weaken (fun q _ hh => hE q hh) (.inl (Nat.le_refl _)))⟩
theorem JN.res {rb : Nat} {c0 : Array Value} (h : JN dv rv fv s base Bs (Thr s qo Bs) Inv st w5 V) (ht : Told n qo qm base F fnd Inv) (hb : V.heap[rb]? = some (.cells c0 4 (0, 0))) (hsb : s ≠ rb) (v : Value) : JN dv rv fv s base Bs (Fou s qo Bs rb) Inv st w5 (V.setCell ⟨rb, 0, none⟩ v) :=
  ⟨(Below.heap_setCell _ _ _ _ hsb).trans h.blk, ht.kept _ _ _ _ h.inv fun k c t _ _ h3 e => by
    obtain ⟨h1, h2⟩ := hole_cells e
    exact (hole_other h1).trans ((Below.heap_setCell _ _ _ _ (ne_of_types h2 hb h3)).trans h2), (h.kp.weaken (E := Fou s qo Bs rb) (fun q _ hh => by rcases hh with hh | hh | hh; exact .inl hh; exact .inr (.inl hh); exact .inr (.inr (.inl hh))) (.inl (Nat.le_refl _))).setCell (p := ⟨rb, 0, none⟩) (.inr (.inr (.inr rfl))) v⟩
theorem keep_kept {T : TypeId} {L : Nat} (hk : KeptT T (Two s qo) base V V') (hT : T ≠ 56) (hu : U64At Bs V) (h1 : Bs ≠ s) (h2 : Bs ≠ qo) (h3 : s < L) (h4 : qo < L) : Keep Bs L V V' := fun k o hko hc => by
  rcases hc with rfl | ⟨hL, hc⟩
  · obtain ⟨c, hcc⟩ := hu
    rw [hcc] at hko
    cases hko
    exact hk.same _ _ hcc (two_no h1 h2) (.inr (nT (Ne.symm hT)))
  · exact hk.same _ _ hko (two_no (by omega) (by omega)) (.inr (by cases o <;> first | trivial | cases hc))
end
set_option maxRecDepth 100000 in
theorem nod_frame_all (t : Array Value) (h : t.size = 94) : t = #[t.getD 0 undef, t.getD 1 undef, t.getD 2 undef, t.getD 3 undef, t.getD 4 undef, t.getD 5 undef, t.getD 6 undef, t.getD 7 undef, t.getD 8 undef, t.getD 9 undef, t.getD 10 undef, t.getD 11 undef, t.getD 12 undef, t.getD 13 undef, t.getD 14 undef, t.getD 15 undef, t.getD 16 undef, t.getD 17 undef, t.getD 18 undef, t.getD 19 undef, t.getD 20 undef, t.getD 21 undef, t.getD 22 undef, t.getD 23 undef, t.getD 24 undef, t.getD 25 undef, t.getD 26 undef, t.getD 27 undef, t.getD 28 undef, t.getD 29 undef, t.getD 30 undef, t.getD 31 undef, t.getD 32 undef, t.getD 33 undef, t.getD 34 undef, t.getD 35 undef, t.getD 36 undef, t.getD 37 undef, t.getD 38 undef, t.getD 39 undef, t.getD 40 undef, t.getD 41 undef, t.getD 42 undef, t.getD 43 undef, t.getD 44 undef, t.getD 45 undef, t.getD 46 undef, t.getD 47 undef, t.getD 48 undef, t.getD 49 undef, t.getD 50 undef, t.getD 51 undef, t.getD 52 undef, t.getD 53 undef, t.getD 54 undef, t.getD 55 undef, t.getD 56 undef, t.getD 57 undef, t.getD 58 undef, t.getD 59 undef, t.getD 60 undef, t.getD 61 undef, t.getD 62 undef, t.getD 63 undef, t.getD 64 undef, t.getD 65 undef, t.getD 66 undef, t.getD 67 undef, t.getD 68 undef, t.getD 69 undef, t.getD 70 undef, t.getD 71 undef, t.getD 72 undef, t.getD 73 undef, t.getD 74 undef, t.getD 75 undef, t.getD 76 undef, t.getD 77 undef, t.getD 78 undef, t.getD 79 undef, t.getD 80 undef, t.getD 81 undef, t.getD 82 undef, t.getD 83 undef, t.getD 84 undef, t.getD 85 undef, t.getD 86 undef, t.getD 87 undef, t.getD 88 undef, t.getD 89 undef, t.getD 90 undef, t.getD 91 undef, t.getD 92 undef, t.getD 93 undef] := (eq_range t 94 h).trans rfl
theorem nod_frame (t : Array Value) (h : t.size = 94) {v2 v4 v5 v7 v51 v52 : Value} (h2 : t.getD 2 undef = v2) (h4 : t.getD 4 undef = v4) (h5 : t.getD 5 undef = v5) (h7 : t.getD 7 undef = v7) (h51 : t.getD 51 undef = v51) (h52 : t.getD 52 undef = v52) : ∃ f : Nat → Value, t = #[f 0, f 1, v2, f 3, v4, v5, f 6, v7, f 8, f 9, f 10, f 11, f 12, f 13, f 14, f 15, f 16, f 17, f 18, f 19, f 20, f 21, f 22, f 23, f 24, f 25, f 26, f 27, f 28, f 29, f 30, f 31, f 32, f 33, f 34, f 35, f 36, f 37, f 38, f 39, f 40, f 41, f 42, f 43, f 44, f 45, f 46, f 47, f 48, f 49, f 50, v51, v52, f 53, f 54, f 55, f 56, f 57, f 58, f 59, f 60, f 61, f 62, f 63, f 64, f 65, f 66, f 67, f 68, f 69, f 70, f 71, f 72, f 73, f 74, f 75, f 76, f 77, f 78, f 79, f 80, f 81, f 82, f 83, f 84, f 85, f 86, f 87, f 88, f 89, f 90, f 91, f 92, f 93] := by
  refine ⟨fun i => t.getD i undef, ?_⟩
  have := nod_frame_all t h
  rw [h2, h4, h5, h7, h51, h52] at this
  exact this
def nodAOps : Array Oper := #[
  { dst := some 27, op := Op.load 91 (Operand.tmp 2), type := 91, pos := "search.go:101", after := #[], guard := none },
  { dst := some 28, op := Op.nilCheck (Operand.tmp 27), type := 0, pos := "search.go:101", after := #[{ on := 0, ground := Ground.data }], guard := none },
  { dst := some 29, op := Op.fieldAddr 93 (Operand.tmp 28) 0, type := 0, pos := "search.go:101", after := #[{ on := 1, ground := Ground.data }], guard := none },
  { dst := some 30, op := Op.load 25 (Operand.tmp 29), type := 25, pos := "search.go:101", after := #[{ on := 2, ground := Ground.data }], guard := none },
  { dst := some 31, op := Op.load 77 (Operand.tmp 3), type := 77, pos := "search.go:101", after := #[], guard := none },
  { dst := some 32, op := Op.build 80 #[(0, Operand.tmp 30), (1, Operand.tmp 31)], type := 80, pos := "search.go:101", after := #[{ on := 3, ground := Ground.data }, { on := 4, ground := Ground.data }], guard := none },
  { dst := some 33, op := Op.box 80 (Operand.tmp 32), type := 75, pos := "search.go:101", after := #[{ on := 5, ground := Ground.data }], guard := none },
  { dst := some 5, op := Op.alloc 75, type := 0, pos := "search.go:101", after := #[], guard := none },
  { dst := none, op := Op.store 75 (Operand.tmp 5) (Operand.tmp 33), type := 0, pos := "search.go:101", after := #[{ on := 7, ground := Ground.data }, { on := 6, ground := Ground.data }, { on := 0, ground := Ground.phase }, { on := 1, ground := Ground.phase }, { on := 2, ground := Ground.phase }, { on := 3, ground := Ground.phase }, { on := 4, ground := Ground.phase }, { on := 5, ground := Ground.phase }, { on := 6, ground := Ground.phase }, { on := 7, ground := Ground.phase }], guard := none }]
def nodBOps : Array Oper := #[
  { dst := some 38, op := Op.load 91 (Operand.tmp 2), type := 91, pos := "search.go:106", after := #[], guard := none },
  { dst := some 39, op := Op.load 75 (Operand.tmp 5), type := 75, pos := "search.go:106", after := #[], guard := none },
  { dst := some 40, op := Op.nilCheck (Operand.tmp 39), type := 0, pos := "search.go:106", after := #[{ on := 1, ground := Ground.data }], guard := none },
  { dst := some 41, op := Op.fieldAddr 80 (Operand.tmp 40) 1, type := 0, pos := "search.go:106", after := #[{ on := 2, ground := Ground.data }], guard := none },
  { dst := some 42, op := Op.load 77 (Operand.tmp 41), type := 77, pos := "search.go:106", after := #[{ on := 3, ground := Ground.data }], guard := none },
  { dst := some 43, op := Op.call { callee := Callee.value (Operand.func 89), args := #[Operand.tmp 38, Operand.tmp 42], argTypes := #[91, 77] }, type := 3, pos := "search.go:106", after := #[{ on := 0, ground := Ground.data }, { on := 4, ground := Ground.data }], guard := none },
  { dst := some 6, op := Op.alloc 3, type := 0, pos := "search.go:106", after := #[], guard := none },
  { dst := none, op := Op.store 3 (Operand.tmp 6) (Operand.tmp 43), type := 0, pos := "search.go:106", after := #[{ on := 6, ground := Ground.data }, { on := 5, ground := Ground.data }, { on := 5, ground := Ground.chain }, { on := 0, ground := Ground.phase }, { on := 1, ground := Ground.phase }, { on := 2, ground := Ground.phase }, { on := 3, ground := Ground.phase }, { on := 4, ground := Ground.phase }, { on := 5, ground := Ground.phase }, { on := 6, ground := Ground.phase }], guard := none }]
def nodCOps : Array Oper := #[
  { dst := some 68, op := Op.load 91 (Operand.tmp 2), type := 91, pos := "search.go:114", after := #[], guard := none },
  { dst := some 69, op := Op.nilCheck (Operand.tmp 68), type := 0, pos := "search.go:114", after := #[{ on := 0, ground := Ground.data }], guard := none },
  { dst := some 70, op := Op.fieldAddr 93 (Operand.tmp 69) 2, type := 0, pos := "search.go:114", after := #[{ on := 1, ground := Ground.data }], guard := none },
  { dst := some 71, op := Op.load 61 (Operand.tmp 70), type := 61, pos := "search.go:114", after := #[{ on := 2, ground := Ground.data }], guard := none },
  { dst := some 72, op := Op.load 39 (Operand.tmp 7), type := 39, pos := "search.go:114", after := #[], guard := none },
  { dst := some 73, op := Op.call { callee := Callee.value (Operand.tmp 71), args := #[Operand.tmp 72], argTypes := #[39] }, type := 4, pos := "search.go:114", after := #[{ on := 3, ground := Ground.data }, { on := 4, ground := Ground.data }], guard := none },
  { dst := none, op := Op.store 4 (Operand.tmp 4) (Operand.tmp 73), type := 0, pos := "search.go:114", after := #[{ on := 5, ground := Ground.data }, { on := 5, ground := Ground.chain }, { on := 0, ground := Ground.phase }, { on := 1, ground := Ground.phase }, { on := 2, ground := Ground.phase }, { on := 3, ground := Ground.phase }, { on := 4, ground := Ground.phase }, { on := 5, ground := Ground.phase }], guard := none }]
def nodDOps : Array Oper := #[
  { dst := some 74, op := Op.load 75 (Operand.tmp 5), type := 75, pos := "search.go:116", after := #[], guard := none },
  { dst := some 75, op := Op.load 3 (Operand.tmp 6), type := 3, pos := "search.go:116", after := #[], guard := none },
  { dst := some 76, op := Op.nilCheck (Operand.tmp 74), type := 0, pos := "search.go:116", after := #[{ on := 0, ground := Ground.data }], guard := none },
  { dst := some 77, op := Op.fieldAddr 80 (Operand.tmp 76) 1, type := 0, pos := "search.go:116", after := #[{ on := 2, ground := Ground.data }], guard := none },
  { dst := some 78, op := Op.indexAddr 77 (Operand.tmp 77) (Operand.tmp 75), type := 0, pos := "search.go:116", after := #[{ on := 3, ground := Ground.data }, { on := 1, ground := Ground.data }], guard := none },
  { dst := some 79, op := Op.load 56 (Operand.tmp 78), type := 56, pos := "search.go:116", after := #[{ on := 4, ground := Ground.data }], guard := none },
  { dst := some 80, op := Op.call { callee := Callee.value (Operand.func 70), args := #[Operand.tmp 79], argTypes := #[56] }, type := 107, pos := "search.go:116", after := #[{ on := 5, ground := Ground.data }], guard := none }]
end Go.Proofs.YtdmmegmkdhinjaaGreatDoor

namespace Go.Proofs.YtdmmegmkdhinjaaGreatDoor
open Go Go.RowKit
attribute [local go_sem] cell_grow u64_sAnd u64_sOr u64_sDiff sDiff_all zeqI zneI sAnd_bit_zero sAnd_bit_zeroN sAnd_bit_nonzero

theorem infoL : (Tryz.prog.info? 39).map (fun i => (i.zero, i.size, i.bytes)) = some (some (.slice none 0 0), 1, 24) := by kernel_rfl
def lget (ss : List (List Int)) (i : Nat) : List Int := ss[i]?.getD []
/-- Solutions, in rows of the call's own. -/
def LOwn (w : World) (base : Nat) (v : Value) (ss : List (List Int)) : Prop := ∃ cs, w.ownsRow base 39 1 v ss.length cs ∧ ∀ i, i < ss.length →
  ∃ yv, cs[i]? = some yv ∧ w.ownsRow base 3 1 yv (lget ss i).length (intsV (lget ss i))
theorem LOwn.typed {w w' : World} {base : Nat} {v : Value} {ss : List (List Int)} (h : LOwn w base v ss) (hc : ∀ (k : Nat) (c : Array Value) (t : TypeId), t = 39 ∨ t = 3 → w.heap[k]? = some (Obj.cells c t (0, 0)) → w'.heap[k]? = some (Obj.cells c t (0, 0))) : LOwn w' base v ss := by
  obtain ⟨cs, h1, h2⟩ := h
  refine ⟨cs, own_type h1 fun k c e => hc k c _ (.inl rfl) e, fun i hi => ?_⟩
  obtain ⟨yv, e5, e6⟩ := h2 i hi
  exact ⟨yv, e5, own_type e6 fun k c e => hc k c _ (.inr rfl) e⟩
theorem LOwn.ck {w w' : World} {base : Nat} {v : Value} {ss : List (List Int)} (h : LOwn w base v ss) (hc : CK w w') : LOwn w' base v ss := h.typed fun _ _ _ _ e => hc.same _ _ _ _ e
theorem LOwn.mono {w : World} {base base' : Nat} {v : Value} {ss : List (List Int)} (h : LOwn w base v ss) (hb : base' ≤ base) : LOwn w base' v ss := by
  obtain ⟨cs, h1, h2⟩ := h
  exact ⟨cs, own_mono h1 hb, fun i hi => let ⟨yv, e5, e6⟩ := h2 i hi; ⟨yv, e5, own_mono e6 hb⟩⟩
theorem LOwn.nil (w : World) (base : Nat) : LOwn w base (.slice none 0 0) [] := ⟨[], World.ownsRow_nil _ _ _ _, fun _ hi => absurd hi (Nat.not_lt_zero _)⟩
theorem LOwn.form {w : World} {base : Nat} {v : Value} {ss : List (List Int)} (h : LOwn w base v ss) : ∃ a c, v = .slice a ss.length c := by obtain ⟨cs, h1, _⟩ := h; exact own_form h1
theorem lget_snoc (l : List (List Int)) (f : List Int) (i : Nat) : lget (l ++ [f]) i = if i < l.length then lget l i else if i = l.length then f else [] := by
  unfold lget
  by_cases h : i < l.length
  · rw [if_pos h, List.getElem?_append_left h]
  · rw [if_neg h]
    by_cases h2 : i = l.length
    · rw [if_pos h2, h2]; simp
    · rw [if_neg h2, List.getElem?_eq_none (by simp; omega)]; rfl
theorem LOwn.appended {w1 w2 : World} {base : Nat} {v v' : Value} {ss : List (List Int)} {f : List Int} {cs : List Value} {yv : Value} (hc : w1.ownsRow base 39 1 v ss.length cs) (hg : w1.grownBy w2 v.ownBlock)
    (hr : ∀ i, i < ss.length → ∃ yv, cs[i]? = some yv ∧ w1.ownsRow base 3 1 yv (lget ss i).length (intsV (lget ss i)))
    (hy : w1.ownsRow base 3 1 yv f.length (intsV f)) (h2 : w2.ownsRow base 39 1 v' (ss.length + 1) (cs ++ [yv])) : LOwn w2 base v' (ss ++ [f]) := by
  have hl : cs.length = ss.length := by have := hc.1; omega
  refine ⟨_, by rw [List.length_append]; exact h2, fun i hi => ?_⟩
  rw [lget_snoc]
  by_cases h : i < ss.length
  · simp only [if_pos h]
    obtain ⟨yv, e5, e6⟩ := hr i h
    rw [List.getElem?_append_left (by omega)]
    exact ⟨yv, e5, e6.kept hg (own_own e6 hc (by decide))⟩
  · have hi2 : i = ss.length := by simp at hi; omega
    subst hi2
    simp only [Nat.lt_irrefl, if_false, if_true]
    rw [List.getElem?_append_right (by omega), hl, Nat.sub_self]
    exact ⟨yv, rfl, hy.kept hg (own_own hy hc (by decide))⟩
/-- What Solve keeps. -/
def SolInv (most : Int) (qo qm base : Nat) (m : Nat) (out : List (List Int)) (w : World) : Prop :=
  out.length ≤ m ∧ (∃ sv, w.heap[qo]? = some (.cells #[sv] 46 (0, 0)) ∧ LOwn w base sv out) ∧ w.heap[qm]? = some (.cells #[.int .i64 most] 3 (0, 0))
set_option maxRecDepth 100000 in
set_option maxHeartbeats 1000000 in
theorem solve1_any (most : Int) (qo qm base m : Nat) (out : List (List Int)) (l : List Int) (lv : Value) (w : World) (b : Nat) (hm : m < 2000) (hi : SolInv most qo qm base m out w) (hbb : base ≤ b) (hl : w.ownsRow b 3 1 lv l.length (intsV l)) (hb : base ≤ w.heap.size) :
    Calls Tryz.prog 56 #[lv, .pointer (some ⟨qo, 0, none⟩), .pointer (some ⟨qm, 0, none⟩)] w fun e w' => e = .returned (.bool (solveF most out l).1) ∧ SolInv most qo qm base (m + 1) (solveF most out l).2 w' ∧ KeptT 39 (One qo) base w w' := by
  obtain ⟨hlen, ⟨sv, ho, hso⟩, hq⟩ := hi
  obtain ⟨cs, hcs, hcr⟩ := hso
  obtain ⟨oa, oc, rfl⟩ := own_form hcs
  obtain ⟨ya, yc, rfl⟩ := own_form hl
  have zo : qo < w.heap.size := (Array.getElem?_eq_some_iff.1 ho).1
  have zm : qm < w.heap.size := (Array.getElem?_eq_some_iff.1 hq).1
  have hne : qo ≠ qm := ne_of_types ho hq (by decide)
  have o0 : w.cell? ⟨qo, 0, none⟩ = some (.slice oa out.length oc) := by rw [cell_of_row _ _ _ _ _ _ ho]; rfl
  obtain ⟨i0, hin, hz0, hz1, hz2⟩ := info_parts infoL
  have HCS := Lib.hid hcs; have HCR := Lib.hid hcr; have HO := Lib.hid ho; have HQ := Lib.hid hq; have HL := Lib.hid (own_mono hl hbb)
  have hnw := Below.new1 w (.cells #[.slice ya l.length yc] 39)
  have HNW := Lib.hid hnw
  clear hcs hcr ho hq hl hnw
  go_enter Tryz.func56, Tryz.ntmps56
  go_wp2_with (at_builtin; refine wpList_append_own _ rfl _ _ 46 rfl base 39 i0 (.slice none 0 0) 1 24 Tryz.underlying46 hin hz0 hz1 hz2 rfl (by decide) _ _ _ rfl (HCS.out.alloc _) ⟨w.heap.size, 0, none⟩ 1 1 [.slice ya l.length yc] rfl rfl ?c1 ?c2 ?c3 ?c4 ?c5 ?_)
  case c1 =>
    intro q u hq
    match q, hq with
    | 0, hq => cases hq; rw [Addr.add_lit]; exact cell_of_one (heap_new0 _ _)
  case c2 => intro u hu; rw [List.mem_singleton.1 hu]; rfl
  case c3 => unfold maxLen; omega
  case c4 => omega
  case c5 => simp; omega
  intro v' w3 hown3 hgrow3 _
  obtain ⟨g5, cp, rfl⟩ := Slice.own_succ hown3
  have hcs1 := own_ck HCS.out (CK.below HNW.out)
  have ho1 := heap_later HO.out HNW.out zo
  have hq1 := heap_later HQ.out HNW.out zm
  have ho3 : w3.heap[qo]? = some (.cells #[.slice oa out.length oc] 46 (0, 0)) := (hgrow3.block _ (Array.getElem?_eq_some_iff.1 ho1).1 (fun hh => own_apart hcs1 ho1 (by decide) _ hh.symm rfl)).trans ho1
  have hq3 : w3.heap[qm]? = some (.cells #[.int .i64 most] 3 (0, 0)) := (hgrow3.block _ (Array.getElem?_eq_some_iff.1 hq1).1 (fun hh => own_apart hcs1 hq1 (by decide) _ hh.symm rfl)).trans hq1
  have hlo : LOwn w3 base (.slice (some ⟨g5, 0, none⟩) (out.length + 1) cp) (out ++ [l]) := LOwn.appended hcs1 hgrow3 (fun i hi => by
    obtain ⟨yv, e5, e6⟩ := HCR.out i hi
    exact ⟨yv, e5, own_ck e6 (CK.below HNW.out)⟩) (own_ck HL.out (CK.below HNW.out)) hown3
  have hk3 := ((KeptT.of_below (T := 39) (E := One qo) (base := base) HNW.out).grown hcs1 hgrow3)
  have o3 : w3.cell? ⟨qo, 0, none⟩ = some (.slice oa out.length oc) := by rw [cell_of_row _ _ _ _ _ _ ho3]; rfl
  have f3 : w3.frozen? ⟨qo, 0, none⟩ = false := by simp [World.frozen?, ho3]
  have c4 : (w3.setCell ⟨qo, 0, none⟩ (.slice (some ⟨g5, 0, none⟩) (out.length + 1) cp)).cell? ⟨qo, 0, none⟩ = some (.slice (some ⟨g5, 0, none⟩) (out.length + 1) cp) := World.cell?_setCell_same _ _ _ o3
  have hq4 : (w3.setCell ⟨qo, 0, none⟩ (.slice (some ⟨g5, 0, none⟩) (out.length + 1) cp)).heap[qm]? = some (.cells #[.int .i64 most] 3 (0, 0)) := (Below.heap_setCell _ _ _ _ (Ne.symm hne)).trans hq3
  have m4 : (w3.setCell ⟨qo, 0, none⟩ (.slice (some ⟨g5, 0, none⟩) (out.length + 1) cp)).cell? ⟨qm, 0, none⟩ = some (.int .i64 most) := by rw [cell_of_row _ _ _ _ _ _ hq4]; rfl
  have hset := set_row (o := 0) (v := .slice (some ⟨g5, 0, none⟩) (out.length + 1) cp) ho3
  have hlo4 : LOwn (w3.setCell ⟨qo, 0, none⟩ (.slice (some ⟨g5, 0, none⟩) (out.length + 1) cp)) base (.slice (some ⟨g5, 0, none⟩) (out.length + 1) cp) (out ++ [l]) := hlo.typed fun k c t ht e => (Below.heap_setCell _ _ _ _ (ne_of_types e ho3 (by rcases ht with rfl | rfl <;> decide))).trans e
  have hk4 := hk3.setCell (p := ⟨qo, 0, none⟩) rfl (.slice (some ⟨g5, 0, none⟩) (out.length + 1) cp)
  have HQ4 := Lib.hid hq4; have HSET := Lib.hid hset; have HLO := Lib.hid hlo4; have HK4 := Lib.hid hk4
  clear hown3 hgrow3 hcs1 ho1 hq1 ho3 hq3 hlo hk3 hq4 hset hlo4 hk4 o0
  go_wp2
  go_ret
  exact ⟨rfl, ⟨by show (out ++ [l]).length ≤ m + 1; simp; omega, ⟨_, HSET.out, HLO.out⟩, HQ4.out⟩, HK4.out⟩
theorem solve_told (n : Nat) (most : Int) (qo qm base : Nat) : Told n qo qm base 56 (solveF most) (SolInv most qo qm base) :=
  ⟨enters_of Tryz.func56 (by kernel_rfl) rfl, fun _ _ _ h => ⟨Nat.le_succ_of_le h.1, h.2⟩,
    fun _ _ _ _ ⟨h1, ⟨sv, h2, h3⟩, h4⟩ hc => ⟨h1, ⟨sv, hc _ _ _ (by decide) (by decide) (by decide) h2, h3.typed fun k c t ht e => hc k c t (by rcases ht with rfl | rfl <;> decide) (by rcases ht with rfl | rfl <;> decide) (by rcases ht with rfl | rfl <;> decide) e⟩, hc _ _ _ (by decide) (by decide) (by decide) h4⟩,
    fun _ _ _ ⟨_, ⟨_, h2, _⟩, _⟩ => (Array.getElem?_eq_some_iff.1 h2).1, fun m g w l lv b hm hi hbb hl _ hb => solve1_any most qo qm base m g l lv w b hm hi hbb hl hb⟩
end Go.Proofs.YtdmmegmkdhinjaaGreatDoor
