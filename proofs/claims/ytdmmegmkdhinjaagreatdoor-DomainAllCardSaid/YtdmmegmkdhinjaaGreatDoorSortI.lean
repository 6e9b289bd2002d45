/- slices.SortFunc at rows of numbers, by their order: the rows lie sorted. -/
import Derived.Test.YtdmmegmkdhinjaaGreatDoorSortP
import Derived.Test.YtdmmegmkdhinjaaGreatDoorDBest
import Derived.Shelf.SlSortCmp.NoneTotal
import Derived.Lib.OwnBridge
namespace Go.Proofs.YtdmmegmkdhinjaaGreatDoor
open Go Go.RowKit Go.Sort Go.Shelf Go.Lib

/-- A block beside the sorted one stays. -/
theorem sortWorld_block {α : Type} [Inhabited α] (enc : α → Value) (w : World) (blk off m : Nat) (d : Array α) (os : Array Obj) {q : Nat} {o : Obj} (h : w.heap[q]? = some o) (hne : q ≠ blk) : (sortWorld enc w blk off m d os).heap[q]? = some o := by
  have hq : q < w.heap.size := (Array.getElem?_eq_some_iff.1 h).1
  unfold sortWorld grow putRow mapBlock
  show (w.heap.modify blk _ ++ os)[q]? = some o
  rw [Array.getElem?_append_left (by simpa using hq), Array.getElem?_modify, if_neg (Ne.symm hne)]
  exact h
theorem sortWorld_ck {α : Type} [Inhabited α] (enc : α → Value) (w : World) (blk off m : Nat) (d : Array α) (os : Array Obj) : CK (putRow enc (Go.Sort.ahead w m) blk off d) (sortWorld enc w blk off m d os) := by
  refine ⟨fun k c t f e => ?_, ?_⟩
  · have hk := (Array.getElem?_eq_some_iff.1 e).1
    unfold sortWorld grow
    show ((putRow enc (Go.Sort.ahead w m) blk off d).heap ++ os)[k]? = _
    rw [Array.getElem?_append_left hk]
    exact e
  · unfold sortWorld grow
    show _ ≤ ((putRow enc (Go.Sort.ahead w m) blk off d).heap ++ os).size
    simp
theorem fin_map (ss : List (List Int)) : (List.finRange ss.length).map (fun i => lget ss i.val) = ss := by
  apply List.ext_getElem
  · simp
  · intro i h1 h2
    simp [lget, h2]
set_option maxHeartbeats 1000000 in
/-- The rows of numbers of a slice of the call's own, sorted. -/
theorem sort_rows {P : Program} {ρ : Ren} (L : SlLaysF.n6 P ρ) (g : Nat) (eg : ∀ args w, (callFunc g args).run P w = .ok (.enter g args) w)
    (hcmp : ∀ (W : World) (a b : Value) (x y : List Int), Ints W W.heap.size a x → Ints W W.heap.size b y → Calls P g #[a, b] W fun e w' => e = .returned (.int .i64 (cmpZ x y)) ∧ w' = W)
    (ss : List (List Int)) (w : World) (base base2 : Nat) (v : Value) (h : LOwn w base v ss) (hb2 : ∀ k, v.ownBlock = some k → base2 ≤ k) (hn : ss.Nodup) (h200 : ss.length ≤ 200) (hrow : ∀ i, i < ss.length → (lget ss i).length ≤ 1000) :
    Calls P (ρ.f 6) #[v, .func (.func g) #[] #[]] w fun e w' => e = .returned (.tuple #[]) ∧ LOwn w' base v (sortZ ss) ∧ KeptT 39 (fun _ => False) base2 w w' := by
  obtain ⟨cs, hc, hr⟩ := h
  by_cases h0 : ss.length = 0
  · have hs : ss = [] := List.length_eq_zero_iff.1 h0
    subst hs
    have hv : ∃ p cap, v = .slice p 0 cap := by
      rcases hc.2 with ⟨h1, _⟩ | ⟨g', cap, cur, h1, _⟩
      · exact ⟨none, 0, h1⟩
      · exact ⟨_, _, h1⟩
    obtain ⟨p, cap, rfl⟩ := hv
    refine (AnyF.slices_SortFunc_none (P := P) (ρ := ρ) { L with } p cap (.func (.func g) #[] #[]) w).mono ?_
    rintro e w' ⟨rfl, rfl⟩
    have : sortZ [] = [] := by unfold sortZ; simp
    rw [this]
    exact ⟨rfl, ⟨cs, hc, hr⟩, KeptT.refl _⟩
  · have inst : Inhabited (Fin ss.length) := ⟨⟨0, by omega⟩⟩
    obtain ⟨enc, henc⟩ : ∃ enc : Fin ss.length → Value, enc = fun i => cs[i.val]?.getD undef := ⟨_, rfl⟩
    have hcl : cs.length = ss.length := by have := hc.1; omega
    have hget : ∀ i : Fin ss.length, cs[i.val]? = some (enc i) := fun i => by
      rw [henc]
      show _ = some (cs[i.val]?.getD undef)
      rw [List.getElem?_eq_getElem (by omega)]
      rfl
    have hrow2 : ∀ i : Fin ss.length, w.ownsRow base 3 1 (enc i) (lget ss i.val).length (intsV (lget ss i.val)) := fun i => by
      obtain ⟨yv, e5, e6⟩ := hr i.val i.isLt
      rw [hget i] at e5
      cases e5
      exact e6
    have hcs : (List.finRange ss.length).map enc = cs := by
      apply List.ext_getElem?
      intro i
      by_cases hi : i < ss.length
      · rw [List.getElem?_map, List.getElem?_eq_getElem (by simpa using hi), hget ⟨i, hi⟩]
        simp
      · rw [List.getElem?_eq_none (by simp; omega), List.getElem?_eq_none (by omega)]
    have hown : w.ownsRow base 39 1 v ss.length ((List.finRange ss.length).map enc) := by rw [hcs]; exact hc
    have hv0 : v ≠ .slice none 0 0 := by
      rintro rfl
      rcases hc.2 with ⟨_, h1⟩ | ⟨g', cap, cur, h1, _⟩
      · exact h0 h1
      · cases h1
    obtain ⟨g', cap, rfl, hb, hlt, hnc, hcm, hl, hH⟩ := Lib.holds_of_ownsRow hown hv0
    have h1 : OneCell enc := fun x => by
      obtain ⟨a, c, hx⟩ := own_form (hrow2 x)
      rw [hx]; rfl
    obtain ⟨cf, hcf⟩ : ∃ cf : Fin ss.length → Fin ss.length → Int, cf = fun x y => cmpZ (lget ss x.val) (lget ss y.val) := ⟨_, rfl⟩
    have hlt2 : ∀ x y, ltOf cf x y = ltOf cmpZ (lget ss x.val) (lget ss y.val) := fun x y => by rw [hcf]; rfl
    have hO : SWO (ltOf cf) := ⟨fun x => by rw [hlt2]; exact swoZ.irrefl _, fun x y z => by rw [hlt2, hlt2, hlt2]; exact swoZ.trans _ _ _, fun x y z => by rw [hlt2, hlt2, hlt2]; exact swoZ.ntrans _ _ _⟩
    have hT : ∀ x y, ltOf cf x y = false → ltOf cf y x = false → x = y := fun x y e1 e2 => by
      rw [hlt2] at e1 e2
      have he := totZ _ _ e1 e2
      have gx : lget ss x.val = ss[x.val] := by unfold lget; rw [List.getElem?_eq_getElem x.isLt]; rfl
      have gy : lget ss y.val = ss[y.val] := by unfold lget; rw [List.getElem?_eq_getElem y.isLt]; rfl
      rw [gx, gy] at he
      have hp := List.pairwise_iff_getElem.1 hn
      apply Fin.ext
      rcases Nat.lt_trichotomy x.val y.val with h | h | h
      · exact absurd he (hp _ _ _ _ h)
      · exact h
      · exact absurd he.symm (hp _ _ _ _ h)
    have hsz : (List.finRange ss.length).toArray.size = ss.length := by simp
    have hwit : ∀ m os (dk : Array (Fin ss.length)) (x : Fin ss.length), (sortWorld enc w g' 0 m dk os).ownsRow base 3 1 (enc x) (lget ss x.val).length (intsV (lget ss x.val)) := fun m os dk x =>
      own_type (hrow2 x) fun k c hk => sortWorld_block enc w g' 0 m dk os hk (fun hh => by
        subst hh
        rcases hown.2 with ⟨h1, _⟩ | ⟨g2, cap2, cur, h1, _, hgg, _⟩
        · cases h1
        · cases h1
          rw [hgg] at hk
          simp only [Option.some.injEq, Obj.cells.injEq] at hk
          exact absurd hk.2.1 (by decide))
    have hints : ∀ m os (dk : Array (Fin ss.length)) (x : Fin ss.length), Ints (sortWorld enc w g' 0 m dk os) (sortWorld enc w g' 0 m dk os).heap.size (enc x) (lget ss x.val) := fun m os dk x =>
      ownsRow_ints (hwit m os dk x) (by have := hrow x.val x.isLt; omega) rfl
    have hcm2 : CmpLays1 P g #[] enc cf g' 0 (List.finRange ss.length).toArray.size w := by
      refine CmpReads.lays (fun m os dk _ x y => ?_)
      refine (hcmp _ _ _ _ _ (hints m os dk x) (hints m os dk y)).mono ?_
      rintro e w' ⟨rfl, rfl⟩
      exact ⟨by rw [hcf], 0, rfl⟩
    have hS := Any.slices_SortFunc_total L enc h1 cf hO g #[] g' 0 cap (List.finRange ss.length).toArray w eg hcm2 hH hlt (by rw [hsz]; omega) hT
    rw [hsz] at hS
    refine hS.mono ?_
    rintro e w' ⟨rfl, n, os, rfl⟩
    obtain ⟨ys, hys⟩ : ∃ ys, ys = (List.finRange ss.length).toArray.toList.mergeSort fun x y => !ltOf cf y x := ⟨_, rfl⟩
    rw [← hys]
    have hyl : ys.length = ss.length := by rw [hys, List.length_mergeSort]; simp
    have hmap : ys.map (fun i => lget ss i.val) = sortZ ss := by
      rw [hys]
      unfold sortZ
      rw [List.map_mergeSort (s := lexZ) (fun a _ b _ => by unfold lexZ; rw [hlt2])]
      show ((List.finRange ss.length).map (fun i => lget ss i.val)).mergeSort lexZ = _
      rw [fin_map]
    have ho2 := Lib.ownsRow_putRow (q := n) (k := ss.length) hown hyl (Nat.le_refl _)
    have ho3 := own_ck ho2 (sortWorld_ck enc w g' 0 n ys.toArray os)
    rw [List.take_of_length_le (by omega)] at ho3
    refine ⟨rfl, ⟨ys.map enc, ?_, fun i hi => ?_⟩, ?_⟩
    · rw [sortZ_length]; exact ho3
    · rw [sortZ_length] at hi
      have hi' : i < ys.length := by omega
      refine ⟨enc ys[i], by rw [List.getElem?_map, List.getElem?_eq_getElem hi']; rfl, ?_⟩
      have hg : lget (sortZ ss) i = lget ss (ys[i]).val := by
        rw [← hmap]
        show ((ys.map (fun i => lget ss i.val))[i]?).getD [] = _
        rw [List.getElem?_map, List.getElem?_eq_getElem hi']
        rfl
      rw [hg]
      exact hwit n os ys.toArray ys[i]
    · refine ⟨rfl, rfl, rfl, ?_, fun q o e _ hne => sortWorld_block enc w g' 0 n ys.toArray os e (fun hh => ?_)⟩
      · have := (sortWorld_ck enc w g' 0 n ys.toArray os).size
        rw [size_putRow] at this
        exact this
      · subst hh
        rcases hne with hne | hne
        · have := hb2 q rfl; omega
        · rcases hown.2 with ⟨h1, _⟩ | ⟨g2, cap2, cur, h1, _, hgg, _⟩
          · cases h1
          · cases h1
            rw [hgg] at e
            cases e
            exact hne rfl
end Go.Proofs.YtdmmegmkdhinjaaGreatDoor
