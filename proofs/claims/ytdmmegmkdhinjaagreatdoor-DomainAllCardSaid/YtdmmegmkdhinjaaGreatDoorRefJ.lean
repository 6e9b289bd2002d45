/- The reference of Domain: place, without, Reason. -/
import Derived.Test.YtdmmegmkdhinjaaGreatDoorBN
namespace Go.Proofs.YtdmmegmkdhinjaaGreatDoor
open Go Go.RowKit
attribute [local go_sem] cell_grow u64_sAnd u64_sOr u64_sDiff sDiff_all zeqI zneI sAnd_bit_zero sAnd_bit_zeroN sAnd_bit_nonzero

/-- Where a list has a number; -1, if it has not. -/
def placeD (l : List Int) (v : Int) : Int := if ihas l v then (l.idxOf v : Int) else -1
theorem idx_eq {v : Int} : ∀ {l : List Int} {k : Nat}, k < l.length → iget l k = v → (∀ j, j < k → iget l j ≠ v) → l.idxOf v = k
  | [], _, h, _, _ => absurd h (Nat.not_lt_zero _)
  | x :: l, 0, _, h, _ => by
    have hx : x = v := h
    rw [List.idxOf_cons, hx]; simp
  | x :: l, k + 1, hk, h, hl => by
    have hx : x ≠ v := hl 0 (Nat.succ_pos _)
    rw [List.idxOf_cons, idx_eq (l := l) (k := k) (by simpa using hk) h (fun j hj => hl (j + 1) (by omega)), show (x == v) = false by simpa using hx]; rfl
theorem place_some {l : List Int} {v : Int} {k : Nat} (hk : k < l.length) (h : iget l k = v) (hl : ∀ j, j < k → iget l j ≠ v) : placeD l v = k := by
  unfold placeD
  rw [idx_eq hk h hl, if_pos]
  unfold ihas
  rw [List.contains_iff_mem, ← h]
  unfold iget
  rw [List.getElem?_eq_getElem hk]; exact List.getElem_mem hk
theorem place_none {l : List Int} {v : Int} (hl : ∀ j, j < l.length → iget l j ≠ v) : placeD l v = -1 := by
  unfold placeD
  rw [if_neg]
  unfold ihas
  rw [List.contains_iff_mem]
  intro hm
  obtain ⟨j, hj, e⟩ := List.mem_iff_getElem.1 hm
  exact hl j hj (by simpa [iget, hj] using e)
theorem place_mem {l : List Int} {v : Int} (h : v ∈ l) : placeD l v = (l.idxOf v : Nat) := by
  unfold placeD
  rw [if_pos (by unfold ihas; rw [List.contains_iff_mem]; exact h)]
set_option maxRecDepth 100000 in
set_option maxHeartbeats 2000000 in
theorem place_any (r : Dr) (v : Int) (vv nv : Value) (w : World) {B : Nat} (hr : RuleAt w B r vv nv) (hB : B ≤ w.heap.size) :
    Gives Tryz.prog 87 #[ruleV r vv nv, .int .i64 v] w (.int .i64 (placeD r.vars v)) := by
  unfold Gives
  have HR := Lib.hid hr
  have hvl := hr.vars.1
  obtain ⟨va, vc, rfl⟩ := hr.vars.slice
  obtain ⟨na, nc, rfl⟩ := hr.nums.slice
  unfold ruleV
  clear hr
  go_enter Tryz.func87, Tryz.ntmps87
  go_upto_region 1 with fail
  refine abs_wp (fun W => W.heap[w.heap.size]? = some (.cells #[.int .i64 r.kind, .slice va r.vars.length vc, .slice na r.nums.length nc, .int .i64 r.n] 69 (0, 0)) ∧ Below w.heap.size w W) ⟨heap_new0 _ _, Below.new1 _ _⟩ ?_
  rintro W ⟨k0, hb⟩
  have K0 := Lib.hid k0; have HB := Lib.hid hb
  clear k0 hb
  go_wp2_with fail
  go_loopw [5] (fun iv wr => ∃ k : Nat, k ≤ r.vars.length ∧ iv = .int .i64 k ∧ (∀ j, j < k → iget r.vars j ≠ v) ∧ wr.heap[w.heap.size]? = some (.cells #[.int .i64 r.kind, .slice va r.vars.length vc, .slice na r.nums.length nc, .int .i64 r.n] 69 (0, 0)) ∧ Below w.heap.size w wr) (fun iv _ => r.vars.length - (intOf iv).toNat)
  case atStart => exact ⟨0, Nat.zero_le _, rfl, fun j hj => absurd hj (Nat.not_lt_zero _), K0.out, HB.out⟩
  case round =>
    obtain ⟨k, hk, rfl, hall, kr, hb⟩ := hrel
    have HALL := Lib.hid hall; have KR := Lib.hid kr; have HBR := Lib.hid hb
    have c1 : wr.cell? ⟨w.heap.size, 1, none⟩ = some (.slice va r.vars.length vc) := by rw [cell_of_row _ _ _ _ _ _ kr]; rfl
    clear hall kr hb K0 HB
    by_cases hlt : k < r.vars.length
    · obtain ⟨_, a', c', hae, _, _, hir⟩ := HR.out.vars.below HBR.out hB
      cases hae
      obtain ⟨b, off, rfl, zb, hc⟩ := hir (by omega)
      have e0 : wr.cell? ⟨b, off + k, none⟩ = some (.int .i64 (iget r.vars k)) := hc k (by omega)
      clear hc hir
      obtain ⟨x, hx⟩ : ∃ x, x = iget r.vars k := ⟨_, rfl⟩
      rw [← hx] at e0
      have HX := Lib.hid hx
      clear hx
      by_cases he : x = v
      · have HP := Lib.hid (place_some hlt (HX.out.symm.trans he) HALL.out)
        subst he
        go_wp2
        go_ret
        exact ⟨by rw [HP.out]; rfl, HBR.out⟩
      · have HE := Lib.hid he
        have f1 : (x == v) = false := by simpa using he
        clear he
        go_wp2
        go_roundw
        case rel => exact ⟨k + 1, by omega, by go_num, fun j hj => if h : j = k then (by subst h; rw [← HX.out]; exact HE.out) else HALL.out j (by omega), KR.out, HBR.out⟩
        case measure => simp [intOf]; omega
    · have hk2 : k = r.vars.length := by omega
      subst hk2
      have HP := Lib.hid (place_none HALL.out)
      go_wp2
      go_ret
      exact ⟨by rw [HP.out]; rfl, HBR.out⟩
set_option maxHeartbeats 400000 in
theorem without_any (d e : Nat) (w : World) (hd : U64 d) (he : e < 64) :
    Calls Tryz.prog 79 #[.int .u64 (d : Nat), .int .i64 (e : Nat)] w fun r w' => r = .returned (.int .u64 (sDiff d (bitN e) : Nat)) ∧ w' = w := by
  have hb := U64.bit he
  go_enter Tryz.func79, Tryz.ntmps79
  go_wp2_with (go_at_call 92; (with_reducible refine (refOne_any _ _ he).mono ?_); rintro ee w' ⟨rfl, rfl⟩)
  go_ret
  exact ⟨rfl, rfl⟩
/-- A cut of one of n variables. -/
def CFitN (n : Nat) (c : Cut) : Prop := ∃ v e : Nat, c.var = v ∧ v < n ∧ c.value = e ∧ e < 16
theorem suppD_congr {f g : List Nat} (h : ∀ i, nget f i = nget g i) (r : Dr) (i : Nat) (v : Int) : suppD f r i v = suppD g r i v := by
  have : ofD f r.vars = ofD g r.vars := List.map_congr_left fun x _ => h x.toNat
  unfold suppD; rw [this]
theorem nget_len {f : List Nat} {i : Nat} (h : f.length ≤ i) : nget f i = 0 := by unfold nget; rw [List.getElem?_eq_none h]; rfl
theorem whyStep_len (l : List Cut) (x : Int) (f : List Nat) (k : Int) : (whyStep l x f k).length = f.length := by
  unfold whyStep; split
  · rfl
  · rw [List.length_set]
theorem whyFold_len (l : List Cut) (x : Int) : ∀ (ks : List Int) (f : List Nat), (ks.foldl (whyStep l x) f).length = f.length
  | [], _ => rfl
  | k :: ks, f => by rw [List.foldl_cons, whyFold_len l x ks, whyStep_len]
theorem whyStep_lt {l : List Cut} {x : Int} {f : List Nat} {k : Int} (h : ∀ i, nget f i < 65536) (i : Nat) : nget (whyStep l x f k) i < 65536 := by
  unfold whyStep
  split
  · exact h i
  · rw [nget_set]
    split
    · exact sDiff_lt (h _)
    · exact h i
theorem whyFold_lt {l : List Cut} {x : Int} : ∀ (ks : List Int) {f : List Nat}, (∀ i, nget f i < 65536) → ∀ i, nget (ks.foldl (whyStep l x) f) i < 65536
  | [], _, h, i => h i
  | k :: ks, f, h, i => whyFold_lt ks (whyStep_lt h) i
theorem whyFold_congr {l : List Cut} {x : Int} {n : Nat} (hl : ∀ i, i < l.length → CFitN n (cget l i)) : ∀ (ks : List Int) (f g : List Nat), (∀ i, i < ks.length → ∃ k : Nat, iget ks i = k ∧ k < l.length) → n ≤ f.length → n ≤ g.length → (∀ i, nget f i = nget g i) → ∀ i, nget (ks.foldl (whyStep l x) f) i = nget (ks.foldl (whyStep l x) g) i
  | [], _, _, _, _, _, h, i => h i
  | k :: ks, f, g, hw, hf, hg, h, i => by
    obtain ⟨q, hq, hql⟩ := hw 0 (by simp)
    have hq' : k = q := hq
    obtain ⟨v, e, hv, hvn, he, _⟩ := hl q hql
    refine whyFold_congr hl ks _ _ (fun j hj => hw (j + 1) (by simpa using hj)) (by rw [whyStep_len]; exact hf) (by rw [whyStep_len]; exact hg) (fun j => ?_) i
    unfold whyStep
    rw [hq', Int.toNat_natCast, hv, he, Int.toNat_natCast]
    split
    · exact h j
    · rw [nget_set, nget_set, h v]
      by_cases hvj : v = j
      · rw [if_pos ⟨hvj, by omega⟩, if_pos ⟨hvj, by omega⟩]
      · rw [if_neg (by omega), if_neg (by omega)]; exact h j
theorem explD_ref {p : Dp} {l : List Cut} {x : Nat} {v : Int} {j : Nat} {why : List Int} (hp : p.doms.length ≤ 8) (hl : ∀ i, i < l.length → CFitN p.doms.length (cget l i)) (hw : ∀ i, i < why.length → ∃ k : Nat, iget why i = k ∧ k < l.length) :
    explD p l ⟨x, v, j, why⟩ = !suppD (why.foldl (whyStep l x) p.doms) (drget p.rules j) ((drget p.rules j).vars.idxOf (x : Int)) v := by
  unfold explD whyF
  dsimp only
  rw [Int.toNat_natCast, suppD_congr (whyFold_congr hl why (padD p.doms) p.doms hw (by rw [padD_length hp]; exact hp) (Nat.le_refl _) (padD_get _))]
end Go.Proofs.YtdmmegmkdhinjaaGreatDoor
