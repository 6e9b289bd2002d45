/- Problems and facts read as data; the frame of a law's row: from a walk that hands back true, memory only grown, to the row's form. -/
import Derived.Test.YtdmmegmkdhinjaaGreatDoorOpen
import Derived.Test.YtdmmegmkdhinjaaGreatDoorRows
import Derived.Test.YtdmmegmkdhinjaaGreatDoorBB
import Derived.ProofKit
import Derived.LaidMore
import Derived.Lib.LaidTab
import Derived.Stop.Joined
import Derived.Carry
namespace Go.Proofs.YtdmmegmkdhinjaaGreatDoor
open Go Go.RowKit Go.ChangeShapes Go.WideShapes Go.Deep
section
variable {H : Type} {enc : TypeId × Value → H} {w : World} {held : Bool}
theorem Tryz.cellsDRule : Tryz.prog.cellsOf 69 = 4 := by kernel_rfl
theorem Tryz.bytesDRule : 0 < Tryz.prog.bytesOf 69 := by rw [show Tryz.prog.bytesOf 69 = 64 by kernel_rfl]; decide
theorem Tryz.cellsDProb : Tryz.prog.cellsOf 25 = 2 := by kernel_rfl
theorem drls_of {v : Value} {d : DataW H} (h : ReadsAs enc Tryz.prog w held 23 v d) (hw : Fits Tryz.prog 23 d) : ∃ xs : List Dr, DRls w w.heap.size v xs := by
  obtain ⟨n, c, hr, hc⟩ := open_row Tryz.underlying23 Tryz.underlying69 (by kernel_rfl) Tryz.cellsDRule (by decide) Tryz.bytesDRule h hw
  obtain ⟨f, hf⟩ := choose_lt (α := Dr) (p := fun i z => c (i * 4) = .int .i64 z.kind ∧ Ints w w.heap.size (c (i * 4 + 1)) z.vars ∧ Ints w w.heap.size (c (i * 4 + 2)) z.nums ∧ c (i * 4 + 3) = .int .i64 z.n) (fun i hi => by
    obtain ⟨y0, hy0, _⟩ := hc i hi 0 _ rfl
    obtain ⟨y1, hy1, hw1⟩ := hc i hi 1 _ rfl
    obtain ⟨y2, hy2, hw2⟩ := hc i hi 2 _ rfl
    obtain ⟨y3, hy3, _⟩ := hc i hi 3 _ rfl
    obtain ⟨a0, h0, _⟩ := reads_int Tryz.underlying67 hy0
    obtain ⟨a1, h1⟩ := ints_of hy1 hw1
    obtain ⟨a2, h2⟩ := ints_of hy2 hw2
    obtain ⟨a3, h3, _⟩ := reads_int Tryz.underlying3 hy3
    exact ⟨⟨a0, a1, a2, a3⟩, h0, h1, h2, h3⟩)
  refine ⟨(List.range n).map f, c, ?_, fun i hi => ?_⟩
  · rw [List.length_map, List.length_range]; exact hr
  · rw [List.length_map, List.length_range] at hi
    have : drget ((List.range n).map f) i = f i := by simp [drget, hi]
    rw [this]
    exact hf i hi
/-- An argument as the row reads it. -/
theorem reads_of {P : Program} {t : TypeId} {v : Value} {d : DataW H} {pl : List MemPlace} (h : DataW.Trod enc P w 0 (fun _ => true) held t v d pl) (hc : v.cells = #[v]) : ReadsAs enc P w held t v d := by
  obtain ⟨m, hm⟩ := h
  rw [hc] at hm
  exact ⟨m, pl, hm⟩
set_option maxRecDepth 100000 in
theorem dprob_of {r : Reach} {b0 : Nat} {v : Value} {d : DataW H} {pl : List MemPlace} (hv : Value.okWide Tryz.prog w r b0 25 v) (h : DataW.Trod enc Tryz.prog w 0 (fun _ => true) held 25 v d pl) (hw : Fits Tryz.prog 25 d) :
    ∃ dv rv, ∃ p : Dp, v = .agg #[dv, rv] ∧ Us w w.heap.size dv p.doms ∧ DRls w w.heap.size rv p.rules ∧ U64l p.doms := by
  obtain ⟨v0, v1, y0, y1, n, rfl, rfl, _, h0, h1⟩ := Joins.open_agg2 Tryz.underlying25 (by kernel_rfl) Tryz.cellsDProb hv h
  obtain ⟨bs, hb, hu⟩ := us_of (v := v0) (d := y0.1) ⟨n, y0.2, h0⟩ (hw.agg Tryz.underlying25 (j := 0) rfl rfl)
  obtain ⟨rs, hr⟩ := drls_of (v := v1) (d := y1.1) ⟨n, y1.2, h1⟩ (hw.agg Tryz.underlying25 (j := 1) rfl rfl)
  exact ⟨v0, v1, ⟨bs, rs⟩, rfl, hb, hr, hu⟩
theorem trodAll_below {P : Program} (hl : laidOutB P = true) {W W' : World} (hb : Below W.heap.size W W') : ∀ {ts : List TypeId} {vs : List Value} {ds : List (DataW H)} {ps : List MemPlace}, (ts.all fun t => P.readableRec t && decide (t < P.types.size)) = true →
    DataW.TrodAll enc P W 0 (fun _ => true) true ts vs ds ps → (∀ x ∈ ps, x.block < W.heap.size) → DataW.TrodAll enc P W' 0 (fun b => decide (b < W.heap.size)) true ts vs ds ps
  | [], [], [], _, _, h, _ => h
  | t :: ts, v :: vs, d :: ds, ps, hr, h, hlt => by
    obtain ⟨p, q, h1, h2, rfl⟩ := h
    simp only [List.all_cons, Bool.and_eq_true, decide_eq_true_eq] at hr
    exact ⟨p, q, Below.trod hl hr.1.1 hr.1.2 h1 hb (fun x hx => hlt x (List.mem_append_left _ hx)), trodAll_below hl hb hr.2 h2 (fun x hx => hlt x (List.mem_append_right _ hx)), rfl⟩
  | [], _ :: _, _, _, _, h, _ => by cases h
  | [], [], _ :: _, _, _, h, _ => by cases h
  | _ :: _, [], _, _, _, h, _ => by cases h
  | _ :: _, _ :: _, [], _, _, h, _ => by cases h
end
theorem Tryz.own : ownKnob Tryz.prog.godebug = none := by kernel_rfl
theorem Tryz.laidOut : laidOutB Tryz.prog = true := by kernel_rfl
theorem tabDatum : (Rows.laid_math_bits_deBruijn64tab : DataW Unit) = Lib.tabData .u8 (Lib.deBruijn64tab.map Int.ofNat) := by kernel_rfl
def laidL : List (String × DataW Unit) := [("math/bits.deBruijn64tab", Rows.laid_math_bits_deBruijn64tab)]
theorem tab_of_laid {W : World} (h : laidMetH Tryz.prog laidL W) : Tab W := by
  unfold laidL at h
  rw [MakeChecks.laidMetH_plain _ _ _ (by kernel_rfl), tabDatum] at h
  have hT := Lib.tabIs_of_head (show Tryz.prog.globalNamed "math/bits.deBruijn64tab" = some 0 by kernel_rfl) (t := 162) (e := 5) (n := 64) (by kernel_rfl) Tryz.underlying162 Tryz.underlying5 (by kernel_rfl) (by kernel_rfl) h
  intro j hj
  have := hT.cell (show Tryz.prog.globalNamed "math/bits.deBruijn64tab" = some 0 by kernel_rfl) j (by simpa using hj)
  rw [this]
  simp [List.getD, hj]
theorem door_met (os : Os) (args : Array Value) : laidMetH Tryz.prog laidL ((World.doorLaid Tryz.prog 4000 os).forCall (fun _ _ => 0) ⟨#[], args, []⟩).memory :=
  laidMetH_of_parts3 (fuel := 8) (laidMet_of_run' 8 (by kernel_rfl) (by kernel_rfl)) (by kernel_rfl) (by kernel_rfl)
set_option maxRecDepth 100000 in
/-- The frame of a law's row. -/
theorem law_lift {f : FuncId} {fn : Func} {s : ChangeSpec} (hni : Tryz.prog.inits.idxOf? f = none) (hfn : Tryz.prog.funcs[f]? = some fn) (hv : s.vars = []) (hvt : s.plain.varTypes Tryz.prog = []) (hrt : fn.resultTypes = #[4])
    (hread : (fn.params.toList.all fun t => Tryz.prog.readableRec t && decide (t < Tryz.prog.types.size)) = true)
    (hsp : ∀ (H : Type) (ds : List (DataW H)), ds.length = fn.params.toList.length → s.fn H (ds ++ []) = { results := [.lit (.bool true)], args := ds, vars := [] })
    (os : Os) (started : os.Started) (H : Type) (enc : TypeId × Value → H) (wargs : Array Value)
    (hwok : Input.okWideB Tryz.prog ((World.doorLaid Tryz.prog 4000 os).forCall (fun _ _ => 0) ⟨#[], wargs, []⟩) f ⟨#[], wargs, []⟩ = true)
    (hwpre : s.preB enc Tryz.prog fn [] false ((World.doorLaid Tryz.prog 4000 os).forCall (fun _ _ => 0) ⟨#[], wargs, []⟩).memory wargs 8 = true)
    (hwsz : s.sizedB enc Tryz.prog fn false ((World.doorLaid Tryz.prog 4000 os).forCall (fun _ _ => 0) ⟨#[], wargs, []⟩).memory wargs 8 = true)
    (hwsh : ((World.doorLaid Tryz.prog 4000 os).forCall (fun _ _ => 0) ⟨#[], wargs, []⟩).Shaped Tryz.prog)
    (hwalk : ∀ (W : World) (base : Nat) (args : Array Value) (ds : List (DataW H)) (ps : List MemPlace), (∀ (j : Nat) t v, fn.params[j]? = some t → args[j]? = some v → Value.okWide Tryz.prog W .any base t v) →
      DataW.TrodAll enc Tryz.prog W 0 (fun _ => true) true fn.params.toList args.toList ds ps → (∀ n ∈ DataW.weightsEach Tryz.prog fn.params.toList ds, n ≤ reachBytes) → Tab W → 0 < W.heap.size → Gives Tryz.prog f args W (.bool true)) :
    ReturnsInHanded {} Tryz.checked os f .any (fun w args => (s.pre enc Tryz.prog fn [] false w args ∧ laidMetH Tryz.prog laidL w) ∧ sizedMet enc Tryz.prog fn (OpenSpec.ofChange s) false w args)
      (s.post enc Tryz.prog fn false true false false) := by
  refine returnsInHanded_of_change_and (C := Tryz.checked) (X := fun w _ => laidMetH Tryz.prog laidL w) (fun _ _ _ hh h => h.of_heap hh) Tryz.own started hni hfn
    (ChangeSpec.witness_shaped (enc := enc) (C := Tryz.checked) (os := os) (X := fun w _ => laidMetH Tryz.prog laidL w) false (World.doorLaid Tryz.prog 4000 os) wargs 8 rfl hwsh hwok hwpre hwsz (door_met os _)) ?_
  intro W base args ds gs before hval hW _ hsz hL _
  have hW' := hW
  obtain ⟨p, q, hA, hV, rfl, hfz, hnd⟩ := hW
  rw [hv] at hV
  obtain ⟨rfl, rfl⟩ := trodVars_none hV
  have hsz' : (DataW.weightsEach Tryz.prog (fn.params.toList ++ s.plain.varTypes Tryz.prog) (ds ++ [])).all (· ≤ reachBytes) = true := hsz
  rw [hvt, List.append_nil, List.append_nil] at hsz'
  have hT := tab_of_laid hL
  have h0 : 0 < W.heap.size := lt_of_cell (hT 0 (by decide))
  have hlen : ∀ {ts : List TypeId} {vs : List Value} {ds : List (DataW H)} {ps : List MemPlace}, DataW.TrodAll enc Tryz.prog W 0 (fun _ => true) true ts vs ds ps → ds.length = ts.length := by
    intro ts
    induction ts with
    | nil => intro vs ds ps h; cases vs <;> cases ds <;> first | rfl | cases h
    | cons t ts ih =>
      intro vs ds ps h
      cases vs with
      | nil => cases h
      | cons v vs =>
        cases ds with
        | nil => cases h
        | cons d ds =>
          obtain ⟨_, _, _, h2, _⟩ := h
          simp only [List.length_cons, ih h2]
  have hl := hlen hA
  refine (hwalk W base args ds p hval hA (fun n hn => by simpa using List.all_eq_true.1 hsz' n hn) hT h0).mono fun e W' ⟨he, hb⟩ => ?_
  have hlt : ∀ x ∈ p, x.block < W.heap.size := fun x hx => hW'.lt x (by simp [hx])
  have e1 := hsp H ds hl
  refine ⟨_, he, ds, [], p ++ [], [], p, [], hW', ?_, ?_, ?_, ?_, fun h => by cases h⟩
  · rw [e1, hrt]; exact trodAll_mk1 (shut_bool Tryz.underlying4 true)
  · rw [e1]; exact trodAll_below Tryz.laidOut hb hread hA hlt
  · rw [e1, hv]; rfl
  · exact World.keptBut_mono (fun x hx => ⟨hx, by simpa using hx⟩) (hb.frame (· ∈ p ++ []))
end Go.Proofs.YtdmmegmkdhinjaaGreatDoor
