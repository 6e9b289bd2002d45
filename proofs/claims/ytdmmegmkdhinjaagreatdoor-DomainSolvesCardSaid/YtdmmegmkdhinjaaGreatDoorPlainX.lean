/- The best solution is the best of all that Solve finds. No program in sight. -/
import Derived.Test.YtdmmegmkdhinjaaGreatDoorPlainW
import Derived.Test.YtdmmegmkdhinjaaGreatDoorDBest
namespace Go.Proofs.YtdmmegmkdhinjaaGreatDoor
open Go Go.RowKit

def bestOf (v : Nat) (l : List (List Int)) : Option (List Int) := l.foldl (fun o x => (bestF v o x).2) none
theorem bestOf_snoc (v : Nat) (l : List (List Int)) (x : List Int) : bestOf v (l ++ [x]) = (bestF v (bestOf v l) x).2 := by unfold bestOf; rw [List.foldl_append]; rfl
theorem bestF_some (v : Nat) (o : Option (List Int)) (x : List Int) : ∃ y, (bestF v o x).2 = some y ∧ (y = x ∨ o = some y) := by
  unfold bestF
  cases o with
  | none => exact ⟨x, rfl, .inl rfl⟩
  | some o =>
    dsimp only
    split
    · exact ⟨x, rfl, .inl rfl⟩
    · exact ⟨o, rfl, .inr rfl⟩
theorem foldB_mem (v : Nat) : ∀ (l : List (List Int)) (o : Option (List Int)) {y : List Int}, l.foldl (fun o x => (bestF v o x).2) o = some y → y ∈ l ∨ o = some y
  | [], _, _, h => .inr h
  | x :: l, o, y, h => by
    obtain ⟨z, h1, h2⟩ := bestF_some v o x
    rcases foldB_mem v l _ h with h3 | h3
    · exact .inl (List.mem_cons_of_mem _ h3)
    · have h3 : (bestF v o x).2 = some y := h3
      rw [h1] at h3
      cases h3
      rcases h2 with rfl | h2
      · exact .inl (by simp)
      · exact .inr h2
theorem bestOf_mem (v : Nat) (l : List (List Int)) {o : List Int} (h : bestOf v l = some o) : o ∈ l := by
  rcases foldB_mem v l none h with h | h
  · exact h
  · cases h
theorem foldB_none (v : Nat) : ∀ (l : List (List Int)) (o : Option (List Int)), l.foldl (fun o x => (bestF v o x).2) o = none → l = [] ∧ o = none
  | [], _, h => ⟨rfl, h⟩
  | x :: l, o, h => by
    obtain ⟨z, h1, _⟩ := bestF_some v o x
    have h3 : (bestF v o x).2 = none := (foldB_none v l _ h).2
    rw [h1] at h3; cases h3
theorem bestOf_none {v : Nat} {l : List (List Int)} : bestOf v l = none ↔ l = [] := ⟨fun h => (foldB_none v l none h).1, fun h => by rw [h]; rfl⟩
/-- Two searches side by side: one keeps all solutions, the other one the best. -/
structure Simu (v : Nat) (a : Sq) (b : Sx (Option (List Int))) : Prop where
  nodes : b.nodes = a.nodes
  opn : b.opn = a.opn
  got : b.got = bestOf v a.got
  few : a.got.length ≤ a.nodes
  le : a.nodes ≤ 2000
theorem goD_sim {v : Nat} {sa : Nat → Sq → Bool × Sq} {sb : Nat → Sx (Option (List Int)) → Bool × Sx (Option (List Int))} (hs : ∀ x a b, Simu v a b → (sa x a).1 = (sb x b).1 ∧ Simu v (sa x a).2 (sb x b).2) : ∀ (xs : List Nat) (a : Sq) (b : Sx (Option (List Int))), Simu v a b →
    (goD sa xs a).1 = (goD sb xs b).1 ∧ Simu v (goD sa xs a).2 (goD sb xs b).2
  | [], _, _, h => ⟨rfl, h⟩
  | x :: xs, a, b, h => by
    obtain ⟨h1, h2⟩ := hs x a b h
    unfold goD
    rw [← h1]
    split
    · exact goD_sim hs xs _ _ h2
    · exact ⟨rfl, h2⟩
theorem nodeD_sim (p : Dp) (v : Nat) : ∀ (k : Nat) (f : List Nat) (a : Sq) (b : Sx (Option (List Int))), Simu v a b → (nodeD p (solveF 2001) k f a).1 = (nodeD p (bestF v) k f b).1 ∧ Simu v (nodeD p (solveF 2001) k f a).2 (nodeD p (bestF v) k f b).2
  | 0, _, _, _, h => ⟨rfl, h⟩
  | k + 1, f, a, b, h => by
    rw [nodeD_succ, nodeD_succ, h.nodes]
    split
    · exact ⟨rfl, rfl, rfl, h.got, h.few, h.le⟩
    · rename_i hn
      have hle := h.le
      have hfw := h.few
      split
      · exact ⟨rfl, rfl, h.opn, h.got, Nat.le_succ_of_le hfw, by show a.nodes + 1 ≤ 2000; omega⟩
      · split
        · refine ⟨?_, rfl, h.opn, ?_, ?_, by show a.nodes + 1 ≤ 2000; omega⟩
          · simp only [solveF, bestF]
            exact decide_eq_true (by omega)
          · show (bestF v b.got _).2 = bestOf v (a.got ++ [_])
            rw [bestOf_snoc, h.got]
          · show (a.got ++ [_]).length ≤ a.nodes + 1
            rw [List.length_append]; simp; omega
        · exact goD_sim (sa := fun x s => nodeD p (solveF 2001) k ((runD p false f).1.set (labelD p.doms.length (runD p false f).1).toNat (bitN x)) s) (sb := fun x s => nodeD p (bestF v) k ((runD p false f).1.set (labelD p.doms.length (runD p false f).1).toNat (bitN x)) s) (fun x a b hab => nodeD_sim p v k _ a b hab) _ _ _ (show Simu v { a with nodes := a.nodes + 1 } { b with nodes := a.nodes + 1 } from ⟨rfl, h.opn, h.got, Nat.le_succ_of_le hfw, by show a.nodes + 1 ≤ 2000; omega⟩)
theorem best_sim (p : Dp) (v : Nat) : Simu v (searchD p (solveF 2001) []) (searchD p (bestF v) none) := (nodeD_sim p v _ _ ⟨0, false, []⟩ ⟨0, false, none⟩ ⟨rfl, rfl, rfl, Nat.le_refl _, Nat.zero_le _⟩).2
/-- Each solution has a value for each variable. -/
theorem nodeD_lens {p : Dp} (hpo : probD p = true) (most : Int) : ∀ (k : Nat) (f : List Nat) (s : Sq), Fok f → (∀ l ∈ s.got, l.length = p.doms.length) → ∀ l ∈ (nodeD p (solveF most) k f s).2.got, l.length = p.doms.length
  | 0, _, _, _, h => h
  | k + 1, f, s, hf, h => by
    rw [nodeD_succ]
    have hgd := (run_good (rs := false) hpo hf).f
    have hn8 := (probD_parts hpo).2.1
    split
    · exact h
    · split
      · exact h
      · rename_i hz
        split
        · rename_i hl
          intro l hm
          rcases List.mem_append.1 (show l ∈ s.got ++ [solD p.doms.length (runD p false f).1] from hm) with hm | hm
          · exact h l hm
          · rw [List.mem_singleton.1 hm]
            refine solD_length hgd (by simpa using hz) hn8 ?_ _ (Nat.le_refl _)
            rcases label_cases (runD p false f).1 p.doms.length with ⟨_, h2⟩ | ⟨x, hx, _⟩
            · exact h2
            · omega
        · rename_i hl
          obtain ⟨x, hx, hxn, h2⟩ := label_lt hl
          rw [hx, Int.toNat_natCast]
          exact goD_ind (Q := fun s : Sq => ∀ l ∈ s.got, l.length = p.doms.length) _ _ h fun v hv s hs => nodeD_lens hpo most k _ s (hgd.child x (elems16 (hgd.lt x) hv)) hs
theorem sol_lens {p : Dp} (hpo : probD p = true) (most : Int) : ∀ l ∈ (searchD p (solveF most) []).got, l.length = p.doms.length := nodeD_lens hpo most _ _ ⟨0, false, []⟩ (padD_ok hpo) fun l h => absurd h (List.not_mem_nil)
theorem sol_few (p : Dp) (most : Int) : (searchD p (solveF most) []).got.length ≤ 2000 := Nat.le_trans (nodeD_few p most _ _ ⟨0, false, []⟩ (Nat.le_refl _)) (nodeD_le p _ _ _ ⟨0, false, []⟩ (Nat.zero_le _))
theorem bestOf_take {v i : Nat} {l : List (List Int)} (h : i < l.length) : bestOf v (l.take (i + 1)) = (bestF v (bestOf v (l.take i)) (lget l i)).2 := by
  rw [List.take_succ_eq_append_getElem h, bestOf_snoc]
  congr 2
  simp [lget, h]
theorem besE_eq {p : Dp} (hpo : probD p = true) {v : Nat} (hv : v < p.doms.length) : besE p (v : Nat) = if (searchD p (solveF 2001) []).opn then 8 else match bestOf v (searchD p (solveF 2001) []).got with | none => 5 | some _ => 0 := by
  have hs := best_sim p v
  unfold besE besS
  rw [hpo, show inB (v : Int) 0 ((p.doms.length : Int) - 1) = true by unfold inB; simp; omega, Int.toNat_natCast, hs.opn, hs.got]
  rfl
theorem besL_eq {p : Dp} (hpo : probD p = true) {v : Nat} (hv : v < p.doms.length) (ho : (searchD p (solveF 2001) []).opn = false) : besL p (v : Nat) = (bestOf v (searchD p (solveF 2001) []).got).getD [] := by
  have hs := best_sim p v
  have he := besE_eq hpo hv
  rw [ho] at he
  unfold besL
  cases hb : bestOf v (searchD p (solveF 2001) []).got with
  | none =>
    rw [hb] at he
    have he : besE p (v : Nat) = 5 := he
    rw [if_neg (by omega)]; rfl
  | some o =>
    rw [hb] at he
    have he : besE p (v : Nat) = 0 := he
    rw [if_pos he, Int.toNat_natCast]
    show (searchD p (bestF v) none).got.getD [] = _
    rw [hs.got, hb]
end Go.Proofs.YtdmmegmkdhinjaaGreatDoor
