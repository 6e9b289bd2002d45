/- The reference's round over elements is the program's, in plain Lean. -/
import Derived.Test.YtilbbnjfaoldoaaGreatDoorRefM
namespace Go.Proofs.YtilbbnjfaoldoaaGreatDoor
open Go Go.RowKit

def rstepE (p : Prob) (rs : Bool) (j v : Nat) (st : St) (e : Nat) : St := if (openE (bget st.1 v)).testBit e then stepE p rs j v st e else st
theorem rfold (p : Prob) (rs : Bool) (j v : Nat) (hv : v < 8) : ∀ (L : List Nat) (st : St), L.Nodup → (∀ e ∈ L, e < 12) → Good p st → L.foldl (rstepE p rs j v) st = (L.filter fun e => (openE (bget st.1 v)).testBit e).foldl (stepE p rs j v) st
  | [], _, _, _, _ => rfl
  | e :: L, st, hn, h12, hg => by
    have hn2 := List.nodup_cons.1 hn
    have hr : ∀ e' ∈ L, e' < 12 := fun e' he' => h12 e' (by simp [he'])
    rw [List.foldl_cons]
    cases hb : (openE (bget st.1 v)).testBit e
    case false =>
      rw [List.filter_cons_of_neg (by simp [hb]), show rstepE p rs j v st e = st by unfold rstepE; rw [hb]; rfl]
      exact rfold p rs j v hv L st hn2.2 hr hg
    case true =>
      have h1 := hg.step (rs := rs) (j := j) hv (h12 e (by simp)) hb
      rw [List.filter_cons_of_pos (by simp [hb]), List.foldl_cons, show rstepE p rs j v st e = stepE p rs j v st e by unfold rstepE; rw [hb]; rfl, rfold p rs j v hv L _ hn2.2 hr h1.1]
      congr 1
      apply List.filter_congr
      intro e' he'
      rw [h1.2.2.2 e' (fun h => hn2.1 (h ▸ he'))]
theorem elems_12 {s : Nat} (h : ∀ e, s.testBit e = true → e < 12) : elems s = (List.range 12).filter fun e => s.testBit e := by
  unfold elems
  rw [show List.range 64 = List.range (12 + 52) from rfl, List.range_add, List.filter_append]
  have : (List.map (fun x => 12 + x) (List.range 52)).filter (fun e => s.testBit e) = [] := by
    rw [List.filter_eq_nil_iff]
    intro x hx hc
    obtain ⟨y, _, rfl⟩ := List.mem_map.1 hx
    have := h _ hc
    omega
  rw [this, List.append_nil]
theorem stepV_r (p : Prob) (rs : Bool) (j v : Nat) (hv : v < 8) (st : St) (hg : Good p st) : stepV p rs j st (v : Int) = (List.range 12).foldl (rstepE p rs j v) st := by
  rw [rfold p rs j v hv _ st List.nodup_range (fun e he => List.mem_range.1 he) hg]
  unfold stepV stE
  rw [Int.toNat_natCast, elems_12 fun e he => ?_]
  have h := hg.s12.get v
  rw [openE_testBit, Bool.and_eq_true] at he
  rcases Nat.lt_or_ge e 12 with h3 | h3
  · exact h3
  · have : (bget st.1 v).can < 2 ^ e := Nat.lt_of_lt_of_le h.2 (show 2 ^ 12 ≤ 2 ^ e from Nat.pow_le_pow_right (Nat.succ_pos 1) h3)
    rw [Nat.testBit_lt_two_pow this] at he
    exact absurd he.1 (by decide)
theorem range_drop (e : Nat) (h : e < 12) : (List.range 12).drop e = e :: (List.range 12).drop (e + 1) := by
  rw [List.drop_eq_getElem_cons (by simpa using h)]; simp
theorem padB_with {b : List Bnd} {v : Nat} (e : Nat) (i : Bool) (hv : v < b.length) : withB (padB b) v e i = padB (withB b v e i) := by
  unfold withB
  rw [bget_pad]
  unfold padB
  cases i
  · simp only [Bool.false_eq_true, if_false]
    rw [List.set_append_left _ _ hv, List.length_set]
  · simp only [if_true]
    rw [List.set_append_left _ _ hv, List.length_set]
theorem padB_take {b : List Bnd} : (padB b).take b.length = b := by unfold padB; rw [List.take_left]
theorem Good.rstep {p : Prob} {rs : Bool} {j v e : Nat} {st : St} (h : Good p st) (hv : v < 8) (he : e < 12) : Good p (rstepE p rs j v st e) := by
  unfold rstepE
  cases hb : (openE (bget st.1 v)).testBit e
  · exact h
  · exact (h.step hv he hb).1
end Go.Proofs.YtilbbnjfaoldoaaGreatDoor
